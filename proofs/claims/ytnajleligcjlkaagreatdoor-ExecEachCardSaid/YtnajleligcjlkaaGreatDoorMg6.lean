/-
  The texts Pe Pf Pt Pu Bfits Bnum Xmust Nest Bnest Bclone Bups Bkids Bcopy Nest2 Bleave Bmove Nest3 Bref20 Bmix Bval Bval2 Bval3 Bbld Xst Bright Bfits2 Bfits3, one behind the other.
-/
import Derived.Test.YtnajleligcjlkaaGreatDoorMg5
set_option linter.unusedSimpArgs false
set_option linter.unusedVariables false
namespace Go.Ab
section
variable {P : Program} {n : Nat} {s : St} {Q : AX → St → Prop} {L : Heap} {ops : Array Oper}
def XPost (P : Program) (rs : List ResultVar) (R : AE → Heap → Prop) (ts hs : List Nat) (x : AX) (s : St) : Prop :=
  match x with
  | .normal | .ret => (s.pick ts hs).on (keys (s.pick ts hs).L) = true ∧ FPost P rs R .ret (s.pick ts hs)
  | .pan y => ((s.pick [] hs).on (keys (s.pick [] hs).L) = true ∧ y.on [] = true) ∧ R (.pan y) (s.pick [] hs).L
  | _ => False
theorem AWP.xpost {c : Code} {rs : List ResultVar} {R : AE → Heap → Prop} (ts hs : List Nat) (ht : ts.all (fun t => decide (t < n)) = true) (hh : hs.Nodup) (h : AWP P n c s (XPost P rs R ts hs)) : AWP P n c s (FPost P rs R) := by
  intro fo m a w hr g
  refine Code.wpIn_mono (fun e a1 w1 hp => ?_) (h fo m a w hr g)
  obtain ⟨ms, m', x, s', hmk, hq, g', he, st⟩ := hp
  have key : ∀ y, (s'.pick ts hs).on (keys (s'.pick ts hs).L) = true ∧ FPost P rs R .ret (s'.pick ts hs) → (∀ m2, Exits w1 (OO (fo.mark ms) m2) m2 e y) → FPost P rs R .ret (s'.pick ts hs) = FPost P rs R y (s'.pick ts hs) → Post fo n m w (FPost P rs R) e a1 w1 := by
    intro y h1 h2 h3
    obtain ⟨m2, g2, st2⟩ := Wk.pick ts hs ht hh h1.1 (fo.mark ms) m' a1 w1 g'
    exact ⟨ms, m2, y, s'.pick ts hs, hmk, h3 ▸ h1.2, g2, h2 m2, st.trans st2⟩
  cases x with
  | normal =>
    refine key .normal hq (fun m2 => ?_) rfl
    cases e <;> simp [Exits] at he ⊢
  | ret =>
    refine key .ret hq (fun m2 => ?_) rfl
    cases e <;> simp [Exits] at he ⊢
  | pan y =>
    obtain ⟨⟨h1, h2⟩, h3⟩ := hq
    obtain ⟨m2, g2, st2⟩ := Wk.pick [] hs rfl hh h1 (fo.mark ms) m' a1 w1 g'
    refine ⟨ms, m2, .pan y, s'.pick [] hs, hmk, h3, g2, ?_, st.trans st2⟩
    cases e <;> simp only [Exits] at he ⊢
    obtain ⟨v, older, rfl, ho', hv⟩ := he
    exact ⟨v, older, rfl, ho', (hv.on (ks := []) (m' := m2) (by simp) h2).mono (Step.keep (fo := (fo.mark ms).f) st2) (Step.sub st2) (fun _ _ e => e)⟩
  | exit i => exact hq.elim
  | goto i => exact hq.elim
theorem ACalls.runX (ts hs : List Nat) {f : FuncId} {args : List V} {R : AE → Heap → Prop} {fn : Func} {c : Code} (hf : P.funcs[f]? = some fn) (hb : fn.body = some c) (hn : args.length ≤ fn.ntmps ∧ ts.all (fun t => decide (t < fn.ntmps)) = true ∧ hs.Nodup)
    (h : codeK P fn.ntmps c ⟨argFrame 0 args, L⟩ (kontK P fn.ntmps (XPost P fn.results.toList R ts hs) [])) : ACalls P f args L R :=
  ACalls.of_AWP hf hb hn.1 (AWP.xpost ts hs hn.2.1 hn.2.2 (codeK_sound _ _ _ h))
attribute [simp] XPost
theorem AOps.effPan {o : Oper} {rest : List Oper} {c : Call} {f : FuncId} {args : List V} {L1 L1' : Heap} {y : V} (hs : List Nat) (hop : o.op = .call c) (h : ACalls P f args L1 (fun r L => r = .pan y ∧ L = L1')) (hc : callee s.ev c = some (f, args)) (hg : o.guard = none)
    (hd : ∀ d, o.dst = some d → d < n) (he : enters P f = true) (hL : s.L.filter (fun p => hs.contains p.1) = L1)
    (ho : V.ons (keys L1) args = true ∧ L1.all (fun p => Res.on (keys L1) p.2) = true ∧ L1.all (fun p => !isBox p.2 || L1'.any (fun q => q.1 == p.1 && (isBox q.2 && boxAt q.2 == boxAt p.2))) = true)
    (hL2 : (s.L.filter fun p => !hs.contains p.1).all (fun p => Res.on (keys (s.L.filter fun p => !hs.contains p.1) ++ keys (L1.filter fun p => isBox p.2)) p.2) = true)
    (hk : (keys L1').all (fun k => !(keys (s.L.filter fun p => !hs.contains p.1)).contains k) = true)
    (kp : Q (.pan y) ⟨[], L1' ++ s.L.filter fun p => !hs.contains p.1⟩) : AOps P n ops (o :: rest) s Q := by
  intro fo m0 w0 m a w st g
  have hbx : (L1.filterMap fun p => match p.2 with | .box (_ + 1) _ _ => some p.1 | _ => none) = keys (L1.filter fun p => isBox p.2) := by
    generalize L1 = l
    induction l with
    | nil => rfl
    | cons p l ih =>
      obtain ⟨a, r⟩ := p
      cases r with
      | box b ty cs =>
        cases b with
        | succ b => simp only [List.filterMap_cons, List.filter_cons, isBox, if_true, keys, List.map_cons, ih]
        | zero =>
          simp only [List.filterMap_cons, List.filter_cons, isBox, ih]
          simp
      | row ty k xs =>
        simp only [List.filterMap_cons, List.filter_cons, isBox, ih]
        simp
      | env A =>
        simp only [List.filterMap_cons, List.filter_cons, isBox, ih]
        simp
      | mp es =>
        simp only [List.filterMap_cons, List.filter_cons, isBox, ih]
        simp
  unfold wpListIn
  rw [if_pos (by simp [Region.wanted, hg])]
  have hperm : s.L.Perm (L1 ++ s.L.filter fun p => !hs.contains p.1) := by subst hL; exact (List.filter_append_perm _ s.L).symm
  refine call_coreP hop hc he ho.1 hperm ho.2.1 (fun p hp => by have h1 := List.all_eq_true.1 hL2 p hp; rw [← hbx] at h1; exact h1) h ?_ g (fun x L1'' mm v w' hR _ _ _ _ _ _ => by cases hR.1) (fun x L1'' mm ch w' hR hch hinv stt hbx' hkeep hO' => ?_)
  · rintro r L1'' ⟨rfl, rfl⟩
    refine ⟨fun k hk' => ?_, fun k b ty cs hm => ?_⟩
    · have := List.all_eq_true.1 hk k hk'
      simpa using this
    · have := List.all_eq_true.1 ho.2.2 _ hm
      simp only [isBox, Bool.not_true, Bool.false_or, List.any_eq_true, Bool.and_eq_true, beq_iff_eq] at this
      obtain ⟨⟨a, r⟩, h1, h2, h3, h4⟩ := this
      simp only at h2
      subst h2
      cases r with
      | box b' ty' cs' =>
        simp only [boxAt, Option.some.injEq] at h4
        subst h4
        exact ⟨ty', cs', h1⟩
      | row _ _ _ => simp at h3
      | env _ => simp at h3
      | mp _ => simp at h3
  · obtain ⟨e, rfl⟩ := hR
    obtain rfl := AE.pan.inj e
    have g' : G fo n mm ⟨[], L1'' ++ s.L.filter fun p => !hs.contains p.1⟩ a w' := ⟨g.size, by simp, hinv, g.defers⟩
    exact .of mm (.pan x) _ kp g' hch (st.trans stt)
theorem AOps.effPanK {o : Oper} {rest : List Oper} {c : Call} {f : FuncId} {args : List V} {L1 L1' : Heap} {y : V} (hs : List Nat) (hop : o.op = .call c) (h : ACalls P f args L1 (fun r L => r = .pan y ∧ L = L1')) (hc : callee s.ev c = some (f, args)) (hg : o.guard = none)
    (hd : ∀ d, o.dst = some d → d < n) (he : enters P f = true) (hL : s.L.filter (fun p => hs.contains p.1) = L1)
    (ho : V.ons (keys L1) args = true ∧ L1.all (fun p => Res.on (keys L1) p.2) = true ∧ L1.all (fun p => !isBox p.2 || L1'.any (fun q => q.1 == p.1 && (isBox q.2 && boxAt q.2 == boxAt p.2))) = true)
    (hL2 : (s.L.filter fun p => !hs.contains p.1).all (fun p => Res.on (keys (s.L.filter fun p => !hs.contains p.1) ++ keys (L1.filter fun p => isBox p.2)) p.2) = true)
    (hk : (keys L1').all (fun k => !(keys (s.L.filter fun p => !hs.contains p.1)).contains k) = true)
    (kp : Q (.pan y) ⟨s.fr.filter fun p => V.on (keys (s.L.filter fun p => !hs.contains p.1) ++ keys (L1.filter fun p => isBox p.2)) p.2, L1' ++ s.L.filter fun p => !hs.contains p.1⟩) : AOps P n ops (o :: rest) s Q := by
  intro fo m0 w0 m a w st g
  have hbx : (L1.filterMap fun p => match p.2 with | .box (_ + 1) _ _ => some p.1 | _ => none) = keys (L1.filter fun p => isBox p.2) := by
    generalize L1 = l
    induction l with
    | nil => rfl
    | cons p l ih =>
      obtain ⟨a, r⟩ := p
      cases r with
      | box b ty cs =>
        cases b with
        | succ b => simp only [List.filterMap_cons, List.filter_cons, isBox, if_true, keys, List.map_cons, ih]
        | zero =>
          simp only [List.filterMap_cons, List.filter_cons, isBox, ih]
          simp
      | row ty k xs =>
        simp only [List.filterMap_cons, List.filter_cons, isBox, ih]
        simp
      | env A =>
        simp only [List.filterMap_cons, List.filter_cons, isBox, ih]
        simp
      | mp es =>
        simp only [List.filterMap_cons, List.filter_cons, isBox, ih]
        simp
  unfold wpListIn
  rw [if_pos (by simp [Region.wanted, hg])]
  have hperm : s.L.Perm (L1 ++ s.L.filter fun p => !hs.contains p.1) := by subst hL; exact (List.filter_append_perm _ s.L).symm
  refine call_coreP hop hc he ho.1 hperm ho.2.1 (fun p hp => by have h1 := List.all_eq_true.1 hL2 p hp; rw [← hbx] at h1; exact h1) h ?_ g (fun x L1'' mm v w' hR _ _ _ _ _ _ => by cases hR.1) (fun x L1'' mm ch w' hR hch hinv stt hbx' hkeep hO' => ?_)
  · rintro r L1'' ⟨rfl, rfl⟩
    refine ⟨fun k hk' => ?_, fun k b ty cs hm => ?_⟩
    · have := List.all_eq_true.1 hk k hk'
      simpa using this
    · have := List.all_eq_true.1 ho.2.2 _ hm
      simp only [isBox, Bool.not_true, Bool.false_or, List.any_eq_true, Bool.and_eq_true, beq_iff_eq] at this
      obtain ⟨⟨a, r⟩, h1, h2, h3, h4⟩ := this
      simp only at h2
      subst h2
      cases r with
      | box b' ty' cs' =>
        simp only [boxAt, Option.some.injEq] at h4
        subst h4
        exact ⟨ty', cs', h1⟩
      | row _ _ _ => simp at h3
      | env _ => simp at h3
      | mp _ => simp at h3
  · obtain ⟨e, rfl⟩ := hR
    obtain rfl := AE.pan.inj e
    have g' : G fo n mm ⟨s.fr.filter fun p => V.on (keys (s.L.filter fun p => !hs.contains p.1) ++ keys (L1.filter fun p => isBox p.2)) p.2, L1'' ++ s.L.filter fun p => !hs.contains p.1⟩ a w' := ⟨g.size, fun t y hy => by
      obtain ⟨h1, h2⟩ := List.mem_filter.1 hy
      obtain ⟨q1, q2⟩ := g.fr t y h1
      refine ⟨q1, (q2.on (fun i z hi hz => hbx' i z ?_ hz) h2).mono hkeep hO' (fun _ _ e => e)⟩
      have e := hbx
      rw [← e] at hi
      exact hi, hinv, g.defers⟩
    exact .of mm (.pan x) _ kp g' hch (st.trans stt)
theorem LOp.makeB {o : Oper} {t : TypeId} {lo co : Operand} {by_ : Nat} {e : TypeId} {z : Value} {l : Int} (h : Nat) (hop : o.op = .makeSlice t lo co) (hg : o.guard = none) (ht : tySl P t = some (e, 1, by_, [z])) (hl : s.ev lo = .d (.v (.int .i64 l)) ∧ s.ev co = .d (.v (.int .i64 l))) (hn : h ∉ keys s.L)
    (hb : 0 ≤ l ∧ l ≤ maxLen ∧ by_ * l.toNat ≤ 140737488355328) :
    LOp P n ops o s.fr s.L none (.sv h l.toNat) ((h, .box 0 e (List.replicate l.toNat (.d (.v z)))) :: s.L) := by
  intro fr2 hlook fo m a w g
  have he' : ∀ z, z ∈ o.op.operands → St.ev ⟨fr2, s.L⟩ z = s.ev z := by
    intro z hz
    cases z with
    | tmp t => exact hlook t (looks_operand hz)
    | const v => rfl
    | global g => rfl
    | func f => rfl
  refine .inl ⟨by simp [Region.wanted, hg], fun next Q' kk => ?_⟩
  obtain ⟨i, zv, hu, hi, hz, hsize, hbytes, hzl, hzs, hone⟩ := tySl_spec ht
  have hel := eval_rel g lo
  have hec := eval_rel g co
  rw [he' lo (by rw [hop]; simp [Op.operands]), hl.1] at hel
  rw [he' co (by rw [hop]; simp [Op.operands]), hl.2] at hec
  have hb' : (i.bytes : Int) * l ≤ 281474976710656 := by
    have e1 : (l.toNat : Int) = l := Int.toNat_of_nonneg (by omega)
    have e2 : ((by_ * l.toNat : Nat) : Int) ≤ 140737488355328 := by omega
    rw [Int.natCast_mul, e1, ← hbytes] at e2
    omega
  have hrun := run_make (P := P) w t e i zv hu hi hz .i64 .i64 l l hb.1 (Int.le_refl _) hb' (by have := hb.2.1; simp only [maxLen] at this; omega)
  rw [hsize, Nat.mul_one] at hrun
  have hrun2 : (execOp a.eval o).run P w = .ok (.value (.slice (some ⟨w.heap.size, 0, none⟩) l.toNat l.toNat)) (w.alloc (.cells (madeCells zv.cells l.toNat) e)) := by
    simp [execOp, hop, hel.v_inv, hec.v_inv, hrun]
  have hx : ∀ b, blk (.pointer (some ⟨w.heap.size, 0, none⟩)) b → w.heap.size ≤ b := by intro b hb; simp [blk, blk1] at hb; omega
  have hgr := Grows.alloc w (.cells (madeCells zv.cells l.toNat) e)
  have hzc : ∀ q, q < l.toNat → (madeCells zv.cells l.toNat)[q]? = some z := by
    intro q hq
    rw [madeCells_get (k := 1) hzs (by decide) hq, Nat.mod_one]
    have : zv.cells.toList[0]? = some z := by rw [hzl]; rfl
    rwa [Array.getElem?_toList] at this
  obtain ⟨g', st⟩ := g.new hgr hn (x := .pointer (some ⟨w.heap.size, 0, none⟩)) (r := .box 0 e (List.replicate l.toNat (.d (.v z)))) hx (by
    refine ⟨w.heap.size, .inl rfl, madeCells zv.cells l.toNat, rfl, heap_alloc_new w _, by simp [madeCells], ?_, ?_⟩
    · intro j u hu'
      have hj : j < l.toNat := by have := (Array.getElem?_eq_some_iff.1 hu').1; simpa [madeCells] using this
      rw [hzc j hj] at hu'
      obtain rfl := Option.some.inj hu'
      exact hone z (by simp)
    · intro j u c hu' hc
      have hj : j < l.toNat := by have := (Array.getElem?_eq_some_iff.1 hu').1; simpa [madeCells] using this
      rw [hzc j hj] at hu'
      obtain rfl := Option.some.inj hu'
      have := List.mem_of_getElem? hc
      rw [List.mem_replicate] at this
      rw [this.2]
      exact .d _ _ (.v _ (hone z (by simp))))
  exact LOp.run hrun2 (.inl rfl) (.sv h l.toNat w.heap.size l.toNat (mset_same _ _) (Nat.le_refl _) (by omega)) (by simpa [killO_none] using g') st next Q' kk
@[congr] theorem runP_cg {ov : List Nat} {l : List (Oper × Option (Nat × Nat))} {fr fr' : FrM} {ks ks' : List (Option Nat)} {Ls Ls' : List Heap} {us us' : List V} {ds ds' : List Dfr} {K : FrM → List (Option Nat) → List Heap → Prop} {KP : V → Heap → Prop}
    (h1 : fr = fr') (h2 : ks = ks') (h3 : Ls = Ls') (h4 : us = us') (h5 : ds = ds') : runP P ops ov l fr ks Ls us ds K KP = runP P ops ov l fr' ks' Ls' us' ds' K KP := by rw [h1, h2, h3, h4, h5]
@[congr] theorem EffP_cg {o : Oper} {s s' : St} {K : V → Option Nat → Heap → Prop} {KP : V → Heap → Prop} (h : s = s') : EffP P ops o s K KP = EffP P ops o s' K KP := by rw [h]
@[congr] theorem runX_cg {c : Nat} {l : List (Oper × Option (Nat × Nat))} {fr fr' : FrM} {ks ks' : List (Option Nat)} {Ls Ls' : List Heap} {us us' : List V}
    (h1 : fr = fr') (h2 : ks = ks') (h3 : Ls = Ls') (h4 : us = us') : runX P ops c l fr ks Ls us = runX P ops c l fr' ks' Ls' us' := by rw [h1, h2, h3, h4]
theorem ACalls.wkP {f : FuncId} {args : List V} {R R' : AE → Heap → Prop} (h : ACalls P f args L R) (hw : ∀ x L', R (.ret x) L' → ∃ x2 L2, Wk 1 ⟨[(0, x)], L'⟩ ⟨[(0, x2)], L2⟩ ∧ R' (.ret x2) L2)
    (hp : ∀ y L', R (.pan y) L' → ∃ L2, y.on [] = true ∧ Wk 1 ⟨[], L'⟩ ⟨[], L2⟩ ∧ R' (.pan y) L2) : ACalls P f args L R' := by
  intro fo m w xs hi hx
  refine (h fo m w xs hi hx).mono ?_
  rintro e w' ⟨m', r, L', hR, he, hi', st⟩
  cases e with
  | returned v =>
    cases r with
    | pan y => simp only [Ends] at he
    | ret x =>
      obtain ⟨x2, L2, hwk, hR'⟩ := hw x L' hR
      simp only [Ends] at he
      have g : G fo 1 m' ⟨[(0, x)], L'⟩ { tmps := #[v], defers := fo.D } w' := by
        refine ⟨rfl, fun t y hy => ?_, hi', rfl⟩
        simp only [List.mem_singleton, Prod.mk.injEq] at hy
        obtain ⟨rfl, rfl⟩ := hy
        exact ⟨by omega, he⟩
      obtain ⟨m2, g2, st2⟩ := hwk fo m' _ w' g
      exact ⟨m2, _, L2, hR', (g2.fr 0 x2 List.mem_cons_self).2, g2.inv, st.trans st2⟩
  | panicked c =>
    cases r with
    | ret x => simp only [Ends] at he
    | pan y =>
      obtain ⟨L2, hy, hwk, hR'⟩ := hp y L' hR
      simp only [Ends] at he
      have g : G fo 1 m' ⟨[], L'⟩ { tmps := #[undef], defers := fo.D } w' := ⟨rfl, by simp, hi', rfl⟩
      obtain ⟨m2, g2, st2⟩ := hwk fo m' _ w' g
      obtain ⟨v, older, rfl, ho', hv⟩ := he
      exact ⟨m2, _, L2, hR', ⟨v, older, rfl, ho', (hv.on (ks := []) (m' := m2) (by simp) hy).mono (Step.keep (fo := fo.f) st2) (Step.sub st2) (fun _ _ e => e)⟩, g2.inv, st.trans st2⟩
  | outgrown => cases r <;> simp only [Ends] at he
theorem AWP.named {c : Code} (h : ∀ Q', Q' = Q → AWP P n c s Q') : AWP P n c s Q := h _ rfl
theorem inB_ne {id j : Nat} (h : Q (.exit j) s) (hn : j ≠ id) : AX.inBlock id Q (.exit j) s := by simpa only [AX.inBlock, if_neg hn] using h
theorem inB_eq {id : Nat} (h : Q .normal s) : AX.inBlock id Q (.exit id) s := by simpa only [AX.inBlock, if_true] using h
theorem inB_ret {id : Nat} (h : Q .ret s) : AX.inBlock id Q .ret s := h
theorem inB_nrm {id : Nat} (h : Q .normal s) : AX.inBlock id Q .normal s := h
theorem thn_ne {f : St → Prop} {j : Nat} (h : Q (.exit j) s) : AX.then f Q (.exit j) s := h
theorem thn_nrm {f : St → Prop} (h : f s) : AX.then f Q .normal s := h
theorem thn_ret {f : St → Prop} (h : Q .ret s) : AX.then f Q .ret s := h
end
end Go.Ab

namespace Go.Ab
section
variable {P : Program} {n : Nat} {Q : AX → St → Prop} {ops : Array Oper} {ov : List Nat}
def stopS (P : Program) (ops : Array Oper) (ov : List Nat) (l : List (Oper × Option (Nat × Nat))) (fr : FrM) (ks : List (Option Nat)) (Ls : List Heap) (us : List V) (ds : List Dfr) (Q : AX → St → Prop) : Prop :=
  runP P ops ov l fr ks Ls us ds (fun fr ks Ls => ∀ bs, Q .normal (St.opn bs ⟨frAt ks ks.length fr, Ls.getD ks.length []⟩)) (fun y L' => ∀ bs, Q (.pan y) (St.opn bs ⟨[], L'⟩))
def runS (P : Program) (ops : Array Oper) (ov : List Nat) : List (Oper × Option (Nat × Nat)) → FrM → List (Option Nat) → List Heap → List V → List Dfr → (AX → St → Prop) → Prop
  | [], fr, ks, Ls, _, ds, Q => dAll P ops ks Ls ds ∧ ∀ bs, Q .normal (St.opn bs ⟨frAt ks ks.length fr, Ls.getD ks.length []⟩)
  | (o, none) :: rest, fr, ks, Ls, us, ds, Q =>
    match (if ov.any (fun t => o.dst == some t) then none else lv P ops ⟨frAt ks ks.length fr, Ls.getD ks.length []⟩ o) with
    | some (x, k, L', c) => c ∧ runS P ops ov rest (putM fr o.dst (ks.length + 1) x) (ks ++ [k]) (Ls ++ [L']) us ds Q
    | none => stopS P ops ov ((o, none) :: rest) fr ks Ls us ds Q
  | (o, some (lo, hi)) :: rest, fr, ks, Ls, us, ds, Q =>
    if isCall o then
      match us with
      | [] => False
      | u :: us' => match cv P ops ⟨frAt ks ks.length fr, Ls.getD ks.length []⟩ o u with
        | some (x, c) => c ∧ allP (ks.length - lo) lo (fun p => qAt P ops o ⟨frAt ks p fr, Ls.getD p []⟩ x (some u)) ∧
            runS P ops ov rest (putM fr o.dst lo x) ks Ls us' (if ks.length < hi then ⟨o, fr, x, ks.length, hi, some u⟩ :: ds else ds) Q
        | none => False
    else
      match qv P ops ⟨frAt ks ks.length fr, Ls.getD ks.length []⟩ o with
      | some (x, c) => c ∧ allP (ks.length - lo) lo (fun p => qAt P ops o ⟨frAt ks p fr, Ls.getD p []⟩ x none) ∧
          runS P ops ov rest (putM fr o.dst lo x) ks Ls us (if ks.length < hi then ⟨o, fr, x, ks.length, hi, none⟩ :: ds else ds) Q
      | none => False
theorem runS_sound : ∀ (l : List (Oper × Option (Nat × Nat))) (fr : FrM) (ks : List (Option Nat)) (Ls : List Heap) (us : List V) (ds : List Dfr), runS P ops ov l fr ks Ls us ds Q → stopS P ops ov l fr ks Ls us ds Q
  | [], fr, ks, Ls, us, ds, h => h
  | (o, none) :: rest, fr, ks, Ls, us, ds, h => by
    rw [runS] at h
    split at h
    · rename_i x k L' c hst
      unfold stopS
      rw [runP, hst]
      exact ⟨h.1, runS_sound rest _ _ _ _ _ h.2⟩
    · exact h
  | (o, some (lo, hi)) :: rest, fr, ks, Ls, us, ds, h => by
    unfold stopS
    rw [runS.eq_def] at h
    rw [runP.eq_def]
    simp only at h ⊢
    cases hcall : isCall o with
    | true =>
      simp only [hcall, if_true] at h ⊢
      cases us with
      | nil => exact h.elim
      | cons u us' =>
        simp only at h ⊢
        split at h
        · rename_i x c hcv
          rw [hcv]
          exact ⟨h.1, h.2.1, runS_sound rest _ _ _ _ _ h.2.2⟩
        · exact h.elim
    | false =>
      simp only [hcall, Bool.false_eq_true, if_false] at h ⊢
      split at h
      · rename_i x c hqv
        rw [hqv]
        exact ⟨h.1, h.2.1, runS_sound rest _ _ _ _ _ h.2.2⟩
      · exact h.elim
theorem stopS.ret {o : Oper} {rest : List (Oper × Option (Nat × Nat))} {fr : FrM} {ks : List (Option Nat)} {Ls : List Heap} {us : List V} {ds : List Dfr} {x : V} {k : Option Nat} {L' : Heap}
    (hlv : (if ov.any (fun t => o.dst == some t) then none else lv P ops ⟨frAt ks ks.length fr, Ls.getD ks.length []⟩ o) = none)
    (h : ∀ n, LOp P n ops o (frAt ks ks.length fr) (Ls.getD ks.length []) k x L') (hk : runS P ops ov rest (putM fr o.dst (ks.length + 1) x) (ks ++ [k]) (Ls ++ [L']) us ds Q) : stopS P ops ov ((o, none) :: rest) fr ks Ls us ds Q := by
  unfold stopS
  rw [runP, hlv]
  exact EffP.ret h (runS_sound _ _ _ _ _ _ hk)
theorem stopS.pan {o : Oper} {rest : List (Oper × Option (Nat × Nat))} {fr : FrM} {ks : List (Option Nat)} {Ls : List Heap} {us : List V} {ds : List Dfr} {y : V} {L' : Heap}
    (hlv : (if ov.any (fun t => o.dst == some t) then none else lv P ops ⟨frAt ks ks.length fr, Ls.getD ks.length []⟩ o) = none)
    (h : ∀ n, LOpP P n ops o (frAt ks ks.length fr) (Ls.getD ks.length []) y L') (hk : (∀ bs, Q (.pan y) (St.opn bs ⟨[], L'⟩)) ∧ dAllC P ops ks.length ks Ls ds ∧ runX P ops ks.length rest (putM fr o.dst (ks.length + 1) .any) (ks ++ [none]) (Ls ++ [[]]) us) : stopS P ops ov ((o, none) :: rest) fr ks Ls us ds Q := by
  unfold stopS
  rw [runP, hlv]
  exact EffP.pan h hk
theorem boxes_stay {L1 L1' : Heap} (h : L1.all (fun p => !isBox p.2 || L1'.any (fun q => q.1 == p.1 && (isBox q.2 && boxAt q.2 == boxAt p.2))) = true) : ∀ k b ty cs, (k, Res.box (b + 1) ty cs) ∈ L1 → ∃ ty' cs', (k, Res.box (b + 1) ty' cs') ∈ L1' := by
  intro k b ty cs hm
  have := List.all_eq_true.1 h _ hm
  simp only [isBox, Bool.not_true, Bool.false_or, List.any_eq_true, Bool.and_eq_true, beq_iff_eq] at this
  obtain ⟨⟨a, r⟩, h1, h2, h3, h4⟩ := this
  simp only at h2
  subst h2
  cases r with
  | box b' ty' cs' =>
    simp only [boxAt, Option.some.injEq] at h4
    subst h4
    exact ⟨ty', cs', h1⟩
  | row _ _ _ => simp at h3
  | env _ => simp at h3
  | mp _ => simp at h3
theorem AWP.regionSt {id : Nat} {l : List Oper} {s : St} (rg : List (Option (Nat × Nat))) (ov : List Nat) (us : List V) (hm : P.follows .mixedOrders = true) (ok : okM n l rg = true)
    (h : runS P l.toArray ov (l.zip rg) (s.fr.map fun e => (e.1, 0, e.2)) [] [s.L] us [] Q) : AWP P n (.region id l.toArray true) s Q :=
  AWP.regionP rg ov us hm ok (runS_sound _ _ _ _ _ _ h)
theorem ACalls.looked {f : FuncId} {args : List V} {L L2 : Heap} {o : AE} (hs : List Nat) (hh : hs.Nodup) (h : ACalls P f args L (fun r L' => r = o ∧ (hs.filterMap fun h => (L'.lookup h).map fun r => (h, r)) = L2)) (hon : L2.all (fun p => Res.on (keys L2) p.2) = true)
    (ho : (match o with | .ret x => x.on (keys L2) | .pan y => y.on []) = true) : ACalls P f args L (fun r L' => r = o ∧ L' = L2) := by
  refine ACalls.wkP h ?_ ?_
  · rintro x L' ⟨rfl, hl⟩
    refine ⟨_, _, Wk.pick [0] hs (by rfl) hh ?_, ?_⟩
    · simp only [St.pick, hl, St.on, List.map_cons, List.map_nil, List.all_cons, List.all_nil, Bool.and_true, Bool.and_eq_true]
      refine ⟨?_, hon⟩
      simpa [getF] using ho
    · simp only [St.pick]
      exact ⟨by simp [getF], hl⟩
  · rintro y L' ⟨rfl, hl⟩
    refine ⟨_, ho, Wk.pick [] hs (by rfl) hh ?_, ?_⟩
    · simp only [St.pick, hl, St.on, List.map_nil, List.all_nil, Bool.true_and]
      exact hon
    · simp only [St.pick]
      exact ⟨trivial, hl⟩
attribute [simp] runS
@[congr] theorem runS_cg {l : List (Oper × Option (Nat × Nat))} {fr fr' : FrM} {ks ks' : List (Option Nat)} {Ls Ls' : List Heap} {us us' : List V} {ds ds' : List Dfr}
    (h1 : fr = fr') (h2 : ks = ks') (h3 : Ls = Ls') (h4 : us = us') (h5 : ds = ds') : runS P ops ov l fr ks Ls us ds Q = runS P ops ov l fr' ks' Ls' us' ds' Q := by rw [h1, h2, h3, h4, h5]
@[congr] theorem stopS_cg {l : List (Oper × Option (Nat × Nat))} {fr fr' : FrM} {ks ks' : List (Option Nat)} {Ls Ls' : List Heap} {us us' : List V} {ds ds' : List Dfr}
    (h1 : fr = fr') (h2 : ks = ks') (h3 : Ls = Ls') (h4 : us = us') (h5 : ds = ds') : stopS P ops ov l fr ks Ls us ds Q = stopS P ops ov l fr' ks' Ls' us' ds' Q := by rw [h1, h2, h3, h4, h5]
end
end Go.Ab

namespace Go.Ab
section
variable {P : Program} {n : Nat} {Q : AX → St → Prop}
def isTold (ov : List Nat) (o : Oper) : Bool := isCall o || ov.any (fun t => o.dst == some t)
def tv (P : Program) (ops : Array Oper) (s : St) (o : Oper) (u : V) : Option (V × Prop) := if isCall o then cv P ops s o u else some (u, YOp P ops o s u)
theorem tv_sound {ops : Array Oper} {s : St} {o : Oper} {u x : V} {c : Prop} (h : tv P ops s o u = some (x, c)) (hc : c) : YOp P ops o s x := by
  unfold tv at h
  split at h
  · exact cv_sound h hc
  · simp only [Option.some.injEq, Prod.mk.injEq] at h
    obtain ⟨rfl, rfl⟩ := h
    exact hc
def tAt (P : Program) (ops : Array Oper) (o : Oper) (s : St) (x : V) : Option V → Prop
  | some u => match tv P ops s o u with
    | some (x', c) => x' = x ∧ c
    | none => False
  | none => match qv P ops s o with
    | some (x', c) => x' = x ∧ c
    | none => False
theorem tAt_sound {ops : Array Oper} {s : St} {o : Oper} {x : V} {t : Option V} (h : tAt P ops o s x t) : YOp P ops o s x := by
  cases t with
  | some u =>
    simp only [tAt] at h
    split at h
    · rename_i x' c hc; obtain ⟨rfl, h⟩ := h; exact tv_sound hc h
    · exact h.elim
  | none =>
    simp only [tAt] at h
    split at h
    · rename_i x' c hc; obtain ⟨rfl, h⟩ := h; exact qv_sound hc h
    · exact h.elim
def dAllT (P : Program) (ops : Array Oper) (ks : List (Option Nat)) (Ls : List Heap) : List Dfr → Prop
  | [] => True
  | d :: ds => allP (d.hi - d.lo) (d.lo + 1) (fun p => tAt P ops d.o ⟨frAt ks p d.fr, Ls.getD p []⟩ d.x d.told) ∧ dAllT P ops ks Ls ds
def EffT (P : Program) (ops : Array Oper) (o : Oper) (s : St) (K : V → Option Nat → Heap → Prop) : Prop := ∃ x k L', (∀ n, LOp P n ops o s.fr s.L k x L') ∧ K x k L'
theorem EffT.intro {ops : Array Oper} {o : Oper} {s : St} {K : V → Option Nat → Heap → Prop} {x : V} {k : Option Nat} {L' : Heap} (h : ∀ n, LOp P n ops o s.fr s.L k x L') (hk : K x k L') : EffT P ops o s K := ⟨x, k, L', h, hk⟩
def runT (P : Program) (ops : Array Oper) (ov : List Nat) : List (Oper × Option (Nat × Nat)) → FrM → List (Option Nat) → List Heap → List V → List Dfr → (FrM → List (Option Nat) → List Heap → Prop) → Prop
  | [], fr, ks, Ls, _, ds, K => dAllT P ops ks Ls ds ∧ K fr ks Ls
  | (o, none) :: rest, fr, ks, Ls, us, ds, K =>
    match lv P ops ⟨frAt ks ks.length fr, Ls.getD ks.length []⟩ o with
    | some (x, k, L', c) => c ∧ runT P ops ov rest (putM fr o.dst (ks.length + 1) x) (ks ++ [k]) (Ls ++ [L']) us ds K
    | none => EffT P ops o ⟨frAt ks ks.length fr, Ls.getD ks.length []⟩ fun x k L' => runT P ops ov rest (putM fr o.dst (ks.length + 1) x) (ks ++ [k]) (Ls ++ [L']) us ds K
  | (o, some (lo, hi)) :: rest, fr, ks, Ls, us, ds, K =>
    if isTold ov o then
      match us with
      | [] => False
      | u :: us' => match tv P ops ⟨frAt ks ks.length fr, Ls.getD ks.length []⟩ o u with
        | some (x, c) => c ∧ allP (ks.length - lo) lo (fun p => tAt P ops o ⟨frAt ks p fr, Ls.getD p []⟩ x (some u)) ∧
            runT P ops ov rest (putM fr o.dst lo x) ks Ls us' (if ks.length < hi then ⟨o, fr, x, ks.length, hi, some u⟩ :: ds else ds) K
        | none => False
    else
      match qv P ops ⟨frAt ks ks.length fr, Ls.getD ks.length []⟩ o with
      | some (x, c) => c ∧ allP (ks.length - lo) lo (fun p => tAt P ops o ⟨frAt ks p fr, Ls.getD p []⟩ x none) ∧
          runT P ops ov rest (putM fr o.dst lo x) ks Ls us (if ks.length < hi then ⟨o, fr, x, ks.length, hi, none⟩ :: ds else ds) K
      | none => False
theorem runT_tr {ops : Array Oper} {ov : List Nat} {K : FrM → List (Option Nat) → List Heap → Prop} : ∀ (l : List (Oper × Option (Nat × Nat))) (fr : FrM) (ks : List (Option Nat)) (Ls : List Heap) (us : List V) (ds : List Dfr), Ls.length = ks.length + 1 → runT P ops ov l fr ks Ls us ds K →
    ∃ tr frE ks1 Ls1, TrM l fr ks.length tr frE (ks ++ ks1).length ∧ (∀ (i : Nat) (r : Rec) (z : Oper × Option (Nat × Nat)), tr[i]? = some r → l[i]? = some z → SemM P n ops (ks ++ ks1) (fun p => (Ls ++ Ls1).getD p []) r z.1) ∧
      dAllT P ops (ks ++ ks1) (Ls ++ Ls1) ds ∧ K frE (ks ++ ks1) (Ls ++ Ls1)
  | [], fr, ks, Ls, us, ds, hl, h => by
    refine ⟨[], fr, [], [], ?_, by simp, ?_, ?_⟩
    · simp only [List.append_nil]; exact .nil fr ks.length
    · simpa using h.1
    · simpa using h.2
  | (o, none) :: rest, fr, ks, Ls, us, ds, hl, h => by
    have key : ∀ (x : V) (k : Option Nat) (L' : Heap), LOp P n ops o (frAt ks ks.length fr) (Ls.getD ks.length []) k x L' → runT P ops ov rest (putM fr o.dst (ks.length + 1) x) (ks ++ [k]) (Ls ++ [L']) us ds K →
        ∃ tr frE ks1 Ls1, TrM ((o, none) :: rest) fr ks.length tr frE (ks ++ ks1).length ∧ (∀ (i : Nat) (r : Rec) (z : Oper × Option (Nat × Nat)), tr[i]? = some r → ((o, none) :: rest)[i]? = some z → SemM P n ops (ks ++ ks1) (fun p => (Ls ++ Ls1).getD p []) r z.1) ∧
          dAllT P ops (ks ++ ks1) (Ls ++ Ls1) ds ∧ K frE (ks ++ ks1) (Ls ++ Ls1) := by
      intro x k L' hlop hr
      obtain ⟨tr, frE, ks1, Ls1, h1, h2, h3, h4⟩ := runT_tr rest _ _ _ us ds (by simp [hl]) hr
      rw [List.append_assoc] at h1 h3 h4
      simp only [List.append_assoc, List.length_append, List.length_cons, List.length_nil] at h1 h2 h3 h4
      refine ⟨⟨fr, x, 0, 0, true, ks.length⟩ :: tr, frE, _, _, .loud (by simpa [Nat.add_comm 1] using h1), ?_, h3, h4⟩
      intro i r z hi hz
      cases i with
      | zero =>
        simp only [List.getElem?_cons_zero, Option.some.injEq] at hi hz
        subst hi; subst hz
        refine ⟨fun _ => ⟨by simp, ?_⟩, (fun h => by cases h)⟩
        simp only
        rw [frAt_pre (Nat.le_refl _), getD_pre (by omega)]
        have e1 : (ks ++ ([k] ++ ks1)).getD ks.length none = k := by
          simp [List.getD_eq_getElem?_getD]
        have e2 : (Ls ++ ([L'] ++ Ls1)).getD (ks.length + 1) [] = L' := by
          simp [List.getD_eq_getElem?_getD, ← hl]
        rw [e1, e2]
        exact hlop
      | succ i => exact h2 i r z (by simpa using hi) (by simpa using hz)
    rw [runT] at h
    split at h
    · rename_i x k L' c hst
      exact key x k L' (LOp.of (n := n) hst h.1) h.2
    · obtain ⟨x, k, L', hlop, hr⟩ := h
      exact key x k L' (hlop n) hr
  | (o, some (lo, hi)) :: rest, fr, ks, Ls, us, ds, hl, h => by
    have key : ∀ (x : V) (t : Option V) (us' : List V), YOp P ops o ⟨frAt ks ks.length fr, Ls.getD ks.length []⟩ x → allP (ks.length - lo) lo (fun p => tAt P ops o ⟨frAt ks p fr, Ls.getD p []⟩ x t) →
        runT P ops ov rest (putM fr o.dst lo x) ks Ls us' (if ks.length < hi then ⟨o, fr, x, ks.length, hi, t⟩ :: ds else ds) K →
        ∃ tr frE ks1 Ls1, TrM ((o, some (lo, hi)) :: rest) fr ks.length tr frE (ks ++ ks1).length ∧ (∀ (i : Nat) (r : Rec) (z : Oper × Option (Nat × Nat)), tr[i]? = some r → ((o, some (lo, hi)) :: rest)[i]? = some z → SemM P n ops (ks ++ ks1) (fun p => (Ls ++ Ls1).getD p []) r z.1) ∧
          dAllT P ops (ks ++ ks1) (Ls ++ Ls1) ds ∧ K frE (ks ++ ks1) (Ls ++ Ls1) := by
      intro x t us' hc ha hr
      obtain ⟨tr, frE, ks1, Ls1, h1, h2, h3, h4⟩ := runT_tr rest _ _ _ us' _ hl hr
      have hds : dAllT P ops (ks ++ ks1) (Ls ++ Ls1) ds := by
        split at h3
        · exact h3.2
        · exact h3
      refine ⟨⟨fr, x, lo, hi, false, ks.length⟩ :: tr, frE, ks1, Ls1, .quiet h1, ?_, hds, h4⟩
      intro i r z hi' hz
      cases i with
      | zero =>
        simp only [List.getElem?_cons_zero, Option.some.injEq] at hi' hz
        subst hi'; subst hz
        refine ⟨(fun h => by cases h), fun _ p hp1 hp2 => ?_⟩
        simp only at hp1 hp2 ⊢
        rcases Nat.lt_trichotomy p ks.length with hlt | heq | hgt
        · rw [frAt_pre (by omega), getD_pre (by omega)]
          exact tAt_sound (allP_at ha p hp1 (by omega))
        · subst heq
          rw [frAt_pre (by omega), getD_pre (by omega)]
          exact hc
        · rw [if_pos (by omega)] at h3
          exact tAt_sound (allP_at h3.1 p (by simp only; omega) (by simp only; omega))
      | succ i => exact h2 i r z (by simpa using hi') (by simpa using hz)
    cases hcall : isTold ov o with
    | true =>
      cases us with
      | nil => rw [runT, if_pos hcall] at h; exact h.elim
      | cons u us' =>
        rw [runT, if_pos hcall] at h
        split at h
        · rename_i x c hcv
          exact key x (some u) us' (tv_sound hcv h.1) h.2.1 h.2.2
        · exact h.elim
    | false =>
      rw [runT.eq_def] at h
      simp only [hcall, Bool.false_eq_true, if_false] at h
      split at h
      · rename_i x c hqv
        exact key x none us (qv_sound hqv h.1) h.2.1 h.2.2
      · exact h.elim
theorem AWP.regionT0 {id : Nat} {l : List Oper} {s : St} (rg : List (Option (Nat × Nat))) (ov : List Nat) (us : List V) (hm : P.follows .mixedOrders = true) (ok : okM n l rg = true)
    (h : runT P l.toArray ov (l.zip rg) (s.fr.map fun e => (e.1, 0, e.2)) [] [s.L] us [] (fun fr ks Ls => Q .normal ⟨frAt ks ks.length fr, Ls.getD ks.length []⟩)) : AWP P n (.region id l.toArray true) s Q := by
  intro fo m a w _ g
  simp only [okM, Bool.and_eq_true, beq_iff_eq, decide_eq_true_eq, List.all_eq_true] at ok
  obtain ⟨⟨⟨⟨⟨⟨o1, o2⟩, o3⟩, o4⟩, o5⟩, o6⟩, o7⟩ := ok
  obtain ⟨tr, frE, ks, Ls, h1, h2, -, h4⟩ := runT_tr (n := n) (l.zip rg) _ [] [s.L] us [] rfl h
  simp only [List.nil_append, List.length_nil] at h1 h2 h4
  refine wpIn_region_any hm ?_
  have := any_orderM (P := P) (n := n) (Q := Q) (l := l) (rg := rg) (lds := loudsOf rg) (ks := ks) (Ls := fun p => ([s.L] ++ Ls).getD p []) o3 h1 (fun i r o hr ho => by
      have hil := (List.getElem?_eq_some_iff.1 ho).1
      exact h2 i r (o, rg[i]'(by omega)) hr (by rw [List.getElem?_zip_eq_some]; exact ⟨ho, List.getElem?_eq_getElem (by omega)⟩))
    o1 o2 o4 o5 o6 (fun o ho t ht => by simpa using o7 o ho t ht) rfl h4 (fo := fo) (m0 := m) (w0 := w)
    (fun e he => by obtain ⟨x, hx, rfl⟩ := List.mem_map.1 he; exact (g.fr x.1 x.2 hx).1) (fun e he => by obtain ⟨x, hx, rfl⟩ := List.mem_map.1 he; rfl)
    l.toArray.size m 0 (Array.replicate l.toArray.size false) (List.range l.length) a { w with drawn := w.drawn + 1 } (by simp) (fun i hi _ => by simpa using hi) ?_
  · exact this
  · have st : Step w (own m) { w with drawn := w.drawn + 1 } (own m) := ⟨rfl, rfl, rfl, Nat.le_refl _, fun _ _ _ => rfl, fun _ _ h => h⟩
    have mono : ∀ {v : Value} {x : V}, RelV w (OO fo m) m v x → RelV { w with drawn := w.drawn + 1 } (OO fo m) m v x := fun h => h.mono st.keep (fun _ _ h => h) (fun _ _ h => h)
    have hfalse : ∀ j, (Array.replicate l.toArray.size false).getD j false = false := by intro j; simp [Array.getD]
    refine ⟨g.size, g.defers, g.inv.grown (Nat.le_refl _) (fun _ _ => rfl), st, by simp, Nat.zero_le _, ?_, ?_, ?_, ?_, ?_, ?_⟩
    · intro q j _; rw [hfalse]; simp
    · intro j r _ hb; rw [hfalse] at hb; cases hb
    · intro j o r d _ _ _ hb; rw [hfalse] at hb; cases hb
    · intro t _
      rw [killR_self (Nat.zero_le _)]
      have : (getM t (s.fr.map fun e => (e.1, 0, e.2))).2 = s.get t := by
        unfold St.get
        generalize s.fr = fr
        induction fr with
        | nil => rfl
        | cons e fr ih =>
          obtain ⟨k, x⟩ := e
          simp only [List.map_cons, getM, getF]
          split
          · rfl
          · exact ih
      rw [this]
      exact mono (get_rel g t)
    · intro e he _
      obtain ⟨x, hx, rfl⟩ := List.mem_map.1 he
      rw [killR_self (Nat.zero_le _)]
      exact mono (g.fr x.1 x.2 hx).2
    · intro j o _ hb; rw [hfalse] at hb; cases hb
theorem AWP.regionT {id : Nat} {l : List Oper} {s : St} (rg : List (Option (Nat × Nat))) (ov : List Nat) (us : List V) (hm : P.follows .mixedOrders = true) (ok : okM n l rg = true)
    (h : runT P l.toArray ov (l.zip rg) (s.fr.map fun e => (e.1, 0, e.2)) [] [s.L] us [] (fun fr ks Ls => ∀ bs, Q .normal (St.opn bs ⟨frAt ks ks.length fr, Ls.getD ks.length []⟩))) : AWP P n (.region id l.toArray true) s Q :=
  AWP.opened (AWP.regionT0 rg ov us hm ok h)
attribute [simp] runT tv tAt dAllT isTold
end
end Go.Ab

namespace Go.Ab
section
variable {P : Program} {n : Nat}
theorem le_foldr_max : ∀ (l : List Nat) (x : Nat), x ∈ l → x ≤ l.foldr max 0
  | [], _, h => by cases h
  | y :: l, x, h => by
    rcases List.mem_cons.1 h with rfl | h
    · simp only [List.foldr_cons]; omega
    · have := le_foldr_max l x h; simp only [List.foldr_cons]; omega
theorem yop_fresh {ops : Array Oper} {o : Oper} {s : St} {ys : List (List D)} {ty : TypeId} {k : Nat} (hg : o.guard = none)
    (h : ∀ fo m (ρ : Operand → Value) w, Inv fo m s.L w → (∀ z, z ∈ o.op.operands → RelV w (OO fo m) m (ρ z) (s.ev z)) →
      ∃ v w', (execOp ρ o).run P w = .ok (.value v) w' ∧ Grows w w' ∧ (RelD w' (OO fo m) v (.sl ys) ∨
        ((∀ b, blk v b → w.heap.size ≤ b) ∧ ∀ h, h ∉ keys s.L → (Res.row ty k (dd ys)).Holds w' (OO fo (mset m h v)) (mset m h v) v))) : YOp P ops o s (.d (.sl ys)) := by
  intro fo m a w hi hs next Q' kk
  rw [if_pos (by simp [Region.wanted, hg])]
  obtain ⟨v, w', hrun, gr, hor⟩ := h fo m a.eval w hi (fun z hz => eval_of_slots hi.glob (fun t ht => hs t (looks_operand (by rw [← ht]; exact hz))))
  refine owp_val hrun (.inl rfl) (kk v w' ?_ (hi.grown gr.size gr.block) ⟨gr.os, gr.tape, gr.output, gr.size, fun b hb _ => gr.block b hb, fun b _ h => h⟩)
  rcases hor with hd | ⟨hb, hh⟩
  · exact .d _ _ hd
  · have hn : (keys s.L).foldr max 0 + 1 ∉ keys s.L := fun hm => by have := le_foldr_max _ _ hm; omega
    have hi' := hi.new hn gr.size gr.block hb (hh _ hn)
    refine .d _ _ (row_data' (ty := ty) (k := k) hi' (by simp [List.lookup]) (mset_same _ _) (fun b ho => ?_) (fun b hv ho => ?_))
    · rcases ho with ⟨i, x, hx, hbx⟩ | hf
      · exact .inl ⟨i, x, mset_sub hi hn v i x hx, hbx⟩
      · exact .inr hf
    · have h1 := hb b hv
      rcases ho with ⟨i, x, hx, hbx⟩ | hf
      · have := hi.lt hx hbx; omega
      · have := hi.folt b hf; omega
theorem yop_append0 {ops : Array Oper} {dst : Option Tmp} {t t2 : TypeId} {so xo : Operand} {ty : TypeId} {pos : String} {after : Array Edge} {k by_ : Nat} {e : TypeId} {z : List Value} {s : St} {ys : List (List D)}
    (ht : tySl P t = some (e, k, by_, z)) (ht2 : tySrc P t2 = true) (hs : s.ev so = .kn (fun v => ∃ ao, v = .slice ao 0 0)) (hx : srcV s.L (s.ev xo) = some (dd ys)) (hk : 0 < k ∧ 0 < by_) (hys : ∀ y ∈ ys, y.length = k)
    (hb : ys.length * by_ ≤ 140737488355328) :
    YOp P ops ⟨dst, .call { callee := .builtin .append, args := #[so, xo], argTypes := #[t, t2] }, ty, pos, after, none⟩ s (.d (.sl ys)) := by
  refine yop_fresh (ty := e) (k := k) rfl ?_
  intro fo m ρ w hi hr
  obtain ⟨i, zv, hu, hiI, hz, hsize, hbytes, hzl, hzs, hone⟩ := tySl_spec ht
  obtain ⟨d2, hu2, hd2⟩ := tySrc_spec ht2
  have hso := hr so (by simp [Op.operands, Call.operands])
  rw [hs] at hso
  obtain ⟨ao, hnil⟩ : ∃ ao, ρ so = .slice ao 0 0 := kn_inv hso
  have hrx := hr xo (by simp [Op.operands, Call.operands])
  have hys' : ∀ y ∈ dd ys, y.length = k := by
    intro y hy
    obtain ⟨q, hq, rfl⟩ := List.mem_map.1 hy
    rw [List.length_map]; exact hys q hq
  obtain ⟨news, src, hnr⟩ := srcV_sound (P := P) hi hrx hx hk.1 hys'
  have hlen : (dd ys).length = ys.length := by simp [dd]
  have hlm : (dd ys).length ≤ maxLen := by rw [hlen]; exact maxLen_of hk.2 hb
  have hexec : ∀ {v' : Value} {w' : World}, (Builtin.append_ #[t, t2] ty #[ρ so, ρ xo]).run P w = .ok v' w' →
      (execOp ρ ⟨dst, .call { callee := .builtin .append, args := #[so, xo], argTypes := #[t, t2] }, ty, pos, after, none⟩).run P w = .ok (.value v') w' := by
    intro v' w' hr
    simp [execOp, resolve, invoke, builtin, hr]
  by_cases hy0 : dd ys = []
  · rw [hy0] at src
    have hn0 : news = [] := List.eq_nil_of_length_eq_zero (by simpa using src.len)
    subst hn0
    have hrun : (Builtin.append_ #[t, t2] ty #[ρ so, ρ xo]).run P w = .ok (.slice ao 0 0) w := by
      obtain ⟨q1, q2⟩ := src.run w rfl
      simp only [List.length_nil] at q1 q2
      rw [hnil]
      rcases hd2 with ⟨e2, rfl⟩ | rfl <;> cases ao <;> simp [Builtin.append_, run_underlying hu, run_underlying hu2, sizeOf, typeInfo, hiI, hsize, q1, q2, storeCells]
    have hy : ys = [] := by simpa [dd] using hy0
    subst hy
    exact ⟨_, w, hexec hrun, Grows.refl w, .inl (.sl ao 0 0 [] 0 0 0 (fun _ _ => undef) rfl (by omega) (by simp [maxLen]) (by omega) (by simp) (by omega) (by simp))⟩
  · have hpos := List.length_pos_iff.2 hy0
    have hrun := run_append_grow' (P := P) (ty := ty) (ao := ao) (sLen := 0) (sCap := 0) (olds := []) hu hu2 hd2 hiI hsize hz src Src.empty (by omega) (by simp only [maxLen] at hlm; omega) (by rw [hbytes]; exact growslice_fits (by omega) (by rw [hlen]; simpa using hb))
    have hge := grownCap_ge w (0 + (dd ys).length) 0 e
    have hcm := grownCap_le_maxLen w (0 + (dd ys).length) 0 e (by omega)
    have hnb : ∀ b, blk (.slice (some ⟨w.heap.size, 0, none⟩) (0 + (dd ys).length) (grownCap w (0 + (dd ys).length) 0 e)) b → w.heap.size ≤ b := by
      intro b hb; simp [blk, blk1] at hb; omega
    have hgr : Grows w (w.drew.alloc (.cells (#[] ++ news.toArray ++ Builtin.zeroCells zv.cells (grownCap w (0 + (dd ys).length) 0 e - (0 + (dd ys).length))) e)) := by
      have := Grows.alloc w.drew (.cells (#[] ++ news.toArray ++ Builtin.zeroCells zv.cells (grownCap w (0 + (dd ys).length) 0 e - (0 + (dd ys).length))) e)
      exact ⟨this.os, this.tape, this.output, this.size, this.block⟩
    rw [← hnil] at hrun
    refine ⟨_, _, hexec hrun, hgr, .inr ⟨hnb, fun h hn => ?_⟩⟩
    have := grown_holds (w := w) (O := OO fo m) (m := m) (e := e) (k := k) (zv := zv) (z := z) (olds := []) (news := news) (xs := []) (ys := dd ys) (cap := grownCap w (0 + (dd ys).length) 0 e) hzl hzs hone hk.1 (by simp) src.len (by simp) src.one (by simp) hys'
        (by simp) hnr (by simpa using hge) hcm (w0 := w) (fr := w.drew.alloc (.cells (#[] ++ news.toArray ++ Builtin.zeroCells zv.cells (grownCap w (0 + (dd ys).length) 0 e - (0 + (dd ys).length))) e))
        (heap_alloc_new w.drew (.cells (#[] ++ news.toArray ++ Builtin.zeroCells zv.cells (grownCap w (0 + (dd ys).length) 0 e - (0 + (dd ys).length))) e))
        (O' := OO fo (mset m h (.slice (some ⟨w.heap.size, 0, none⟩) (0 + (dd ys).length) (grownCap w (0 + (dd ys).length) 0 e)))) (m' := mset m h (.slice (some ⟨w.heap.size, 0, none⟩) (0 + (dd ys).length) (grownCap w (0 + (dd ys).length) 0 e)))
        (fun u c hu => RelV.mono (w := w) (O := OO fo m) ⟨hgr.size, fun b hb _ => hgr.block b hb⟩ (OO_new hi hnb) (mset_sub hi hn _) hu)
    simpa using this
theorem yop_build0 {ops : Array Oper} {dst : Option Tmp} {t : TypeId} {ty : TypeId} {pos : String} {after : Array Edge} {k by_ : Nat} {e : TypeId} {z : List Value} {s : St} (ht : tySl P t = some (e, k, by_, z)) :
    YOp P ops ⟨dst, .buildSlice t 0 #[], ty, pos, after, none⟩ s (.kn (fun v => ∃ ao, v = .slice ao 0 0)) := by
  intro fo m a w hi hs next Q' kk
  rw [if_pos (by simp [Region.wanted])]
  obtain ⟨i, zv, hu, hiI, hz, hsize, hbytes, hzl, hzs, hone⟩ := tySl_spec ht
  have gr := Grows.alloc w (.cells #[] e)
  have hrun : (execOp a.eval ⟨dst, .buildSlice t 0 #[], ty, pos, after, none⟩).run P w = .ok (.value (.slice (some ⟨w.heap.size, 0, none⟩) 0 0)) (w.alloc (.cells #[] e)) := by
    have hps : Instr.fill (fun i => some (i * k, k)) #[] [] = some #[] := rfl
    simp [execOp, Instr.buildSlice, run_underlying hu, sizeOf, typeInfo, hiI, hsize, newRow, hps, Array.range_zero']
  exact owp_val hrun (.inl rfl) (kk _ _ (.kn _ _ ⟨_, rfl⟩) (hi.grown gr.size gr.block) ⟨gr.os, gr.tape, gr.output, gr.size, fun b hb _ => gr.block b hb, fun b _ h => h⟩)
theorem yop_make {ops : Array Oper} {dst : Option Tmp} {t : TypeId} {lo co : Operand} {ty : TypeId} {pos : String} {after : Array Edge} {k by_ : Nat} {e : TypeId} {z : List Value} {kl kc : IntKind} {l c : Int} {s : St}
    (ht : tySl P t = some (e, k, by_, z)) (hl : s.ev lo = .d (.v (.int kl l))) (hc : s.ev co = .d (.v (.int kc c))) (hk : 0 < k)
    (h0 : 0 ≤ l ∧ l ≤ c) (hb : c ≤ maxLen ∧ by_ * c.toNat ≤ 140737488355328) :
    YOp P ops ⟨dst, .makeSlice t lo co, ty, pos, after, none⟩ s (.d (.sl (List.replicate l.toNat (z.map D.v)))) := by
  refine yop_fresh (ty := e) (k := k) rfl ?_
  intro fo m ρ w hi hr
  obtain ⟨i, zv, hu, hiI, hz, hsize, hbytes, hzl, hzs, hone⟩ := tySl_spec ht
  have hel := hr lo (by simp [Op.operands])
  have hec := hr co (by simp [Op.operands])
  rw [hl] at hel
  rw [hc] at hec
  have hcm : c.toNat ≤ maxLen := by omega
  have hb' : (i.bytes : Int) * c ≤ 281474976710656 := by
    have e1 : (c.toNat : Int) = c := Int.toNat_of_nonneg (by omega)
    have e2 : ((by_ * c.toNat : Nat) : Int) ≤ 140737488355328 := by omega
    rw [Int.natCast_mul, e1, ← hbytes] at e2
    omega
  have hrun := run_make (P := P) w t e i zv hu hiI hz kl kc l c h0.1 h0.2 hb' (by simp only [maxLen] at hb; omega)
  rw [hsize] at hrun
  have hx : ∀ b, blk (.slice (some ⟨w.heap.size, 0, none⟩) l.toNat c.toNat) b → w.heap.size ≤ b := by intro b hb; simp [blk, blk1] at hb; omega
  refine ⟨_, _, ?_, Grows.alloc w (.cells (madeCells zv.cells (c.toNat * k)) e), .inr ⟨hx, fun h hn => ?_⟩⟩
  · simp [execOp, hel.v_inv, hec.v_inv, hrun]
  · have hdd : dd (List.replicate l.toNat (z.map D.v)) = List.replicate l.toNat (z.map fun x => V.d (.v x)) := by simp [dd]
    rw [hdd]
    refine .inr ⟨w.heap.size, 0, c.toNat, madeCells zv.cells (c.toNat * k), by simp, heap_alloc_new w _, by simp; omega, hcm, by simp [madeCells], ?_, ?_, ?_⟩
    · intro q x hq
      have := List.mem_of_getElem? hq
      rw [List.mem_replicate] at this
      rw [this.2]; simp [← hzl, hzs]
    · intro j u hu'
      have hj : j < c.toNat * k := by have := (Array.getElem?_eq_some_iff.1 hu').1; simpa [madeCells] using this
      rw [madeCells_get hzs hk hj] at hu'
      exact hone u (by rw [← hzl]; exact List.mem_of_getElem? (by rw [Array.getElem?_toList]; exact hu'))
    · intro p q x y u hx' hy hu'
      have hp := (List.getElem?_eq_some_iff.1 hx').1
      simp at hp
      have := List.mem_of_getElem? hx'
      rw [List.mem_replicate] at this
      obtain ⟨_, rfl⟩ := this
      have hq : q < k := by have := (List.getElem?_eq_some_iff.1 hy).1; simpa [← hzl, hzs] using this
      have hpc : (p + 1) * k ≤ c.toNat * k := Nat.mul_le_mul_right _ (by omega)
      rw [Nat.add_mul, Nat.one_mul] at hpc
      rw [Nat.zero_add, madeCells_get hzs hk (by omega), Nat.mul_comm p k, Nat.mul_add_mod, Nat.mod_eq_of_lt hq] at hu'
      exact rel_vals hone q u y (by rw [← hzl, Array.getElem?_toList]; exact hu') hy
end
end Go.Ab

namespace Go.Ab
open Go.Proofs
theorem Tryz.mixed : Tryz.prog.follows .mixedOrders = true := by kernel_rfl
def fromB (n lo hi : Int) : Bool := decide (lo ≤ n) && decide (n ≤ hi)
theorem fromB_iff {n lo hi : Int} : fromB n lo hi = true ↔ lo ≤ n ∧ n ≤ hi := by simp [fromB]
def int16 (n : Int) : Bool := fromB n (-32768) 32767
theorem refFrom_ok (n lo hi : Int) : Pure Tryz.prog 32 [.d (.v (.int .i64 n)), .d (.v (.int .i64 lo)), .d (.v (.int .i64 hi))] (.d (.v (.bool (fromB n lo hi)))) := by
  unfold fromB
  refine Pure.run Tryz.func32 rfl (by simp [Tryz.f32]) ?_; simp [Tryz.f32]
theorem refIs_ok (n : Int) : Pure Tryz.prog 31 [.d (.v (.int .i64 n))] (.d (.v (.bool (int16 n)))) := by
  unfold int16 fromB
  refine Pure.run Tryz.func31 rfl (by simp [Tryz.f31]) ?_; simp [Tryz.f31]
def allB {α : Type} (p : α → Bool) (l : List α) : Bool := l.all p
theorem allB_nil {α : Type} (p : α → Bool) : allB p [] = true := rfl
theorem allB_snoc {α : Type} (p : α → Bool) (pre : List α) (x : α) : allB p (pre ++ [x]) = (allB p pre && p x) := by simp [allB]
theorem allB_split {α : Type} {p : α → Bool} {l pre post : List α} {x : α} (h : l = pre ++ x :: post) (hH : allB p pre = true) : allB p l = (p x && allB p post) := by
  unfold allB at *
  rw [h, List.all_append, hH]; simp
theorem allB_iff {α : Type} {p : α → Bool} {l : List α} : allB p l = true ↔ ∀ x ∈ l, p x = true := by simp [allB]
theorem refValues_ok (l : List Int) (hl : l.length ≤ 1000000000000000) : Pure Tryz.prog 28 [.d (.sl (encI l))] (.d (.v (.bool (allB int16 l)))) := by
  refine Pure.run Tryz.func28 rfl (by simp [Tryz.f28]) ?_; simp [Tryz.f28]
  refine AWP.loopL [0, 3] l (fun pre => [(3, .d (.v (.int .i64 pre.length)))]) (fun _ => []) (fun pre => allB int16 pre = true) (by rfl) (by omega) (by simp [allB_nil]) ?_ ?_
  · rintro pre x post hsp hH hlt hge a4
    have hall := allB_split hsp hH
    clear hsp
    simp [*]
    refine AOps.pureC rfl (refIs_ok x) (by simp) rfl (by simp) rfl ?_
    simp
    simp_all [allB_snoc]
  · intro hH
    simp [*]
def smallB (c : Int) : Bool := fromB c 97 122
def greatB (c : Int) : Bool := fromB c 65 90
def digitB (c : Int) : Bool := fromB c 48 57
def rowB (c : Int) : Bool := smallB c || greatB c || digitB c || c == 45 || c == 39
def txtB (c : UInt8) : Bool := !((decide ((c.toNat : Int) < 32) || decide ((c.toNat : Int) > 126)) && (c.toNat : Int) != 10)
def wrdB (c : UInt8) : Bool := rowB c.toNat && !greatB c.toNat
def isTextB (s : ByteArray) : Bool := allB txtB s.data.toList && decide (s.size ≤ 1024)
def isWordB (s : ByteArray) : Bool := decide (1 ≤ s.size) && decide (s.size ≤ 9) && (smallB (s.data.toList[0]?.getD 0).toNat || digitB (s.data.toList[0]?.getD 0).toNat) && allB wrdB s.data.toList
theorem refSmall_ok (c : Int) : Pure Tryz.prog 190 [.d (.v (.int .u8 c))] (.d (.v (.bool (smallB c)))) := by
  unfold smallB fromB
  refine Pure.run Tryz.func190 rfl (by simp [Tryz.f190]) ?_; simp [Tryz.f190]
theorem refGreat_ok (c : Int) : Pure Tryz.prog 193 [.d (.v (.int .u8 c))] (.d (.v (.bool (greatB c)))) := by
  unfold greatB fromB
  refine Pure.run Tryz.func193 rfl (by simp [Tryz.f193]) ?_; simp [Tryz.f193]
theorem refDigit_ok (c : Int) : Pure Tryz.prog 191 [.d (.v (.int .u8 c))] (.d (.v (.bool (digitB c)))) := by
  unfold digitB fromB
  refine Pure.run Tryz.func191 rfl (by simp [Tryz.f191]) ?_; simp [Tryz.f191]
theorem refRow_ok (c : Int) : Pure Tryz.prog 192 [.d (.v (.int .u8 c))] (.d (.v (.bool (rowB c)))) := by
  unfold rowB
  refine Pure.run Tryz.func192 rfl (by simp [Tryz.f192]) ?_; simp [-cB, Tryz.f192]
  repeat' (first
    | (with_reducible refine And.intro ?_ ?_)
    | (refine condC_split (fun h => ?_) (fun h => ?_) <;> (try simp at h) <;> (try simp [-cB, *]))
    | (refine AOps.pureC rfl (refSmall_ok _) rfl rfl (by simp) rfl ?_ <;> (try simp [-cB, *]))
    | (refine AOps.pureC rfl (refGreat_ok _) rfl rfl (by simp) rfl ?_ <;> (try simp [-cB, *]))
    | (refine AOps.pureC rfl (refDigit_ok _) rfl rfl (by simp) rfl ?_ <;> (try simp [-cB, *]))
    | (refine AOps.lendC rfl (refSmall_ok _) rfl (by simp) rfl rfl (by simp) rfl ?_ <;> (try simp [-cB, *]))
    | (refine AOps.lendC rfl (refGreat_ok _) rfl (by simp) rfl rfl (by simp) rfl ?_ <;> (try simp [-cB, *]))
    | (refine AOps.lendC rfl (refDigit_ok _) rfl (by simp) rfl rfl (by simp) rfl ?_ <;> (try simp [-cB, *]))
    | (refine AOps.pureG rfl (fun h => refSmall_ok _) rfl (by first | rfl | (simp; rfl)) (by simp) (by simp) rfl ?_ <;> (try simp [-cB, *]))
    | (refine AOps.pureG rfl (fun h => refGreat_ok _) rfl (by first | rfl | (simp; rfl)) (by simp) (by simp) rfl ?_ <;> (try simp [-cB, *]))
    | (refine AOps.pureG rfl (fun h => refDigit_ok _) rfl (by first | rfl | (simp; rfl)) (by simp) (by simp) rfl ?_ <;> (try simp [-cB, *]))
    | (with_reducible intro _))
theorem refIsText_ok (s : ByteArray) (hs : s.size ≤ 1000000000000000) : Pure Tryz.prog 67 [.d (.v (.string s))] (.d (.v (.bool (isTextB s)))) := by
  have hsz : s.data.toList.length = s.size := rfl
  unfold isTextB
  refine Pure.run Tryz.func67 rfl (by simp [Tryz.f67]) ?_; simp [Tryz.f67]
  refine AWP.loopL [0, 3] s.data.toList (fun pre => [(3, .d (.v (.int .i64 pre.length)))]) (fun _ => []) (fun pre => allB txtB pre = true) (by rfl) (by omega) (by simp [allB_nil]) ?_ ?_
  · rintro pre x post hsp hH hlt hge a4
    have hall := allB_split hsp hH
    have hge2 : s.data[pre.length]'hlt = x := by simpa using hge
    rw [hsz] at hlt
    clear hsp hge
    simp [*]
    have : txtB x = true ↔ ((x.toNat : Int) < 32 ∨ 126 < (x.toNat : Int) → (x.toNat : Int) = 10) := by simp [txtB]; omega
    refine ⟨fun h1 h2 h3 => (h2 ((this.1 h3) h1)).elim, fun h => ?_⟩
    simp [allB_snoc, hH, this.2 h]
  · intro hH
    simp [*]
    omega
theorem refIsWord_ok (s : ByteArray) (hs : s.size ≤ 1000000000000000) : Pure Tryz.prog 141 [.d (.v (.string s))] (.d (.v (.bool (isWordB s)))) := by
  have hsz : s.data.toList.length = s.size := rfl
  unfold isWordB
  refine Pure.run Tryz.func141 rfl (by simp [Tryz.f141]) ?_; simp [-cB, Tryz.f141]
  repeat' (first
    | (with_reducible refine And.intro ?_ ?_)
    | (refine condC_split (fun h => ?_) (fun h => ?_) <;> (try simp at h) <;> (try simp [-cB, *]))
    | (refine AOps.pureC rfl (refSmall_ok _) rfl rfl (by simp) rfl ?_ <;> (try simp [-cB, *]))
    | (refine AOps.pureC rfl (refDigit_ok _) rfl rfl (by simp) rfl ?_ <;> (try simp [-cB, *]))
    | (refine AOps.lendC rfl (refSmall_ok _) rfl (by simp) rfl rfl (by simp) rfl ?_ <;> (try simp [-cB, *]))
    | (refine AOps.lendC rfl (refDigit_ok _) rfl (by simp) rfl rfl (by simp) rfl ?_ <;> (try simp [-cB, *]))
    | (refine AOps.pureG rfl (fun h => refSmall_ok _) rfl (by first | rfl | (simp; rfl)) (by simp) (by simp) rfl ?_ <;> (try simp [-cB, *]))
    | (refine AOps.pureG rfl (fun h => refDigit_ok _) rfl (by first | rfl | (simp; rfl)) (by simp) (by simp) rfl ?_ <;> (try simp [-cB, *]))
    | (with_reducible intro _))
  all_goals first | omega | assumption | skip
  · generalize smallB ↑(s.data[0]?.getD 0).toNat = p at *
    generalize digitB ↑(s.data[0]?.getD 0).toNat = q at *
    rename_i h1 h2 h3
    rcases h with (h | h) | ⟨h, h'⟩
    · omega
    · omega
    · simp [h, h'] at h3
  · refine AWP.loopL [0, 3] s.data.toList (fun pre => [(3, .d (.v (.int .i64 pre.length)))]) (fun _ => []) (fun pre => allB wrdB pre = true) (by rfl) (by omega) (by simp [allB_nil]) ?_ ?_
    · rintro pre x post hsp hH hlt hge a4
      have hall := allB_split hsp hH
      have hge2 : s.data[pre.length]'hlt = x := by simpa using hge
      rw [hsz] at hlt
      clear hsp hge
      have hsn : allB wrdB (pre ++ [x]) = wrdB x := by simp [allB_snoc, hH]
      have hx : wrdB x = (rowB x.toNat && !greatB x.toNat) := rfl
      simp [-cB, *]
      repeat' (first
        | (with_reducible refine And.intro ?_ ?_)
        | (refine condC_split (fun h => ?_) (fun h => ?_) <;> (try simp at h) <;> (try simp [-cB, *]))
        | (refine AOps.pureC rfl (refRow_ok _) rfl rfl (by simp) rfl ?_ <;> (try simp [-cB, *]))
        | (refine AOps.pureC rfl (refGreat_ok _) rfl rfl (by simp) rfl ?_ <;> (try simp [-cB, *]))
        | (refine AOps.lendC rfl (refRow_ok _) rfl (by simp) rfl rfl (by simp) rfl ?_ <;> (try simp [-cB, *]))
        | (refine AOps.lendC rfl (refGreat_ok _) rfl (by simp) rfl rfl (by simp) rfl ?_ <;> (try simp [-cB, *]))
        | (refine AOps.pureG rfl (fun h => refRow_ok _) rfl (by first | rfl | (simp; rfl)) (by simp) (by simp) rfl ?_ <;> (try simp [-cB, *]))
        | (refine AOps.pureG rfl (fun h => refGreat_ok _) rfl (by first | rfl | (simp; rfl)) (by simp) (by simp) rfl ?_ <;> (try simp [-cB, *]))
        | (with_reducible intro _))
      all_goals (first | assumption | omega | (rw [inR_i64]; omega) | (simp_all; done) | grind | skip)
    · intro hH
      simp [*]
      all_goals (first | assumption | omega | (rw [inR_i64]; omega) | (simp_all; done) | grind | skip)
def textB (t : GTables) (n : Int) (none : Bool) : Bool := fromB n 0 (t.Texts.length - 1) || (none && decide (n = -1))
def routB (t : GTables) (n : Int) (none : Bool) : Bool := (none && decide (n = -1)) || (fromB n 0 (t.Params.length - 1) && decide (t.Params[n.toNat]?.getD 0 = 0))
def thingB (t : GTables) (n : Int) : Bool := fromB n 1 (t.Things.length - 1)
theorem refText_ok (t : GTables) (ht : t.wf) (n : Int) (none : Bool) : Pure Tryz.prog 66 [.agg (t.enc.map .d), .d (.v (.int .i64 n)), .d (.v (.bool none))] (.d (.v (.bool (textB t n none)))) := by
  have hlen : t.Texts.length ≤ 1000000000000000 := by have := ht; simp [GTables.wf] at this; omega
  unfold textB
  refine Pure.run Tryz.func66 rfl (by simp [Tryz.f66]) ?_; simp [-cB, Tryz.f66]
  repeat' (first
    | (with_reducible refine And.intro ?_ ?_)
    | (refine condC_split (fun h => ?_) (fun h => ?_) <;> (try simp at h) <;> (try simp [-cB, *]))
    | (refine AOps.pureC rfl (refFrom_ok _ _ _) rfl rfl (by simp) rfl ?_ <;> (try simp [-cB, *]))
    | (refine AOps.lendC rfl (refFrom_ok _ _ _) rfl (by simp) rfl rfl (by simp) rfl ?_ <;> (try simp [-cB, *]))
    | (refine AOps.pureG rfl (fun h => refFrom_ok _ _ _) rfl (by first | rfl | (simp; rfl)) (by simp) (by simp) rfl ?_ <;> (try simp [-cB, *]))
    | (with_reducible intro _))
  all_goals (first | assumption | omega | (rw [inR_i64]; omega) | (simp_all [fromB]; done) | grind [fromB] | skip)
theorem refThing_ok (t : GTables) (ht : t.wf) (n : Int) : Pure Tryz.prog 70 [.agg (t.enc.map .d), .d (.v (.int .i64 n))] (.d (.v (.bool (thingB t n)))) := by
  have hlen : t.Things.length ≤ 1000000000000000 := by have := ht; simp [GTables.wf] at this; omega
  unfold thingB
  refine Pure.run Tryz.func70 rfl (by simp [Tryz.f70]) ?_; simp [-cB, Tryz.f70]
  repeat' (first
    | (with_reducible refine And.intro ?_ ?_)
    | (refine condC_split (fun h => ?_) (fun h => ?_) <;> (try simp at h) <;> (try simp [-cB, *]))
    | (refine AOps.pureC rfl (refFrom_ok _ _ _) rfl rfl (by simp) rfl ?_ <;> (try simp [-cB, *]))
    | (refine AOps.lendC rfl (refFrom_ok _ _ _) rfl (by simp) rfl rfl (by simp) rfl ?_ <;> (try simp [-cB, *]))
    | (refine AOps.pureG rfl (fun h => refFrom_ok _ _ _) rfl (by first | rfl | (simp; rfl)) (by simp) (by simp) rfl ?_ <;> (try simp [-cB, *]))
    | (with_reducible intro _))
  all_goals (first | assumption | omega | (rw [inR_i64]; omega) | (simp_all [fromB]; done) | grind [fromB] | skip)
theorem refRoutine_ok (t : GTables) (ht : t.wf) (n : Int) (none : Bool) : Pure Tryz.prog 75 [.agg (t.enc.map .d), .d (.v (.int .i64 n)), .d (.v (.bool none))] (.d (.v (.bool (routB t n none)))) := by
  have hlen : t.Params.length ≤ 1000000000000000 := by have := ht; simp [GTables.wf] at this; omega
  unfold routB
  refine Pure.run Tryz.func75 rfl (by simp [Tryz.f75]) ?_; simp [-cB, Tryz.f75]
  repeat' (first
    | (with_reducible refine And.intro ?_ ?_)
    | (refine condC_split (fun h => ?_) (fun h => ?_) <;> (try simp at h) <;> (try simp [-cB, *]))
    | (refine AOps.pureC rfl (refFrom_ok _ _ _) rfl rfl (by simp) rfl ?_ <;> (try simp [-cB, *]))
    | (refine AOps.lendC rfl (refFrom_ok _ _ _) rfl (by simp) rfl rfl (by simp) rfl ?_ <;> (try simp [-cB, *]))
    | (refine AOps.pureG rfl (fun h => refFrom_ok _ _ _) rfl (by first | rfl | (simp; rfl)) (by simp) (by simp) rfl ?_ <;> (try simp [-cB, *]))
    | (with_reducible intro _))
  all_goals (first | assumption | omega | (rw [inR_i64]; omega) | (simp_all [fromB]; done) | grind [fromB] | skip)
def wordsB (l : List ByteArray) (most : Int) : Bool := allB isWordB l && decide ((l.length : Int) ≤ most)
theorem refWords_ok (l : List ByteArray) (hl : l.length ≤ 1000000000000000) (hs : ∀ x ∈ l, x.size ≤ 1000000000000000) (most : Int) : Pure Tryz.prog 69 [.d (.sl (encS l)), .d (.v (.int .i64 most))] (.d (.v (.bool (wordsB l most)))) := by
  unfold wordsB
  refine Pure.run Tryz.func69 rfl (by simp [Tryz.f69]) ?_; simp [Tryz.f69]
  refine AWP.loopL [0, 1, 5] l (fun pre => [(5, .d (.v (.int .i64 pre.length)))]) (fun _ => []) (fun pre => allB isWordB pre = true) (by rfl) (by omega) (by simp [allB_nil]) ?_ ?_
  · rintro pre x post hsp hH hlt hge a4
    have hall := allB_split hsp hH
    have hx := refIsWord_ok x (hs x (by rw [hsp]; simp))
    have hsn : allB isWordB (pre ++ [x]) = isWordB x := by simp [allB_snoc, hH]
    clear hsp
    simp [-cB, *]
    repeat' (first
      | (with_reducible refine And.intro ?_ ?_)
      | (refine condC_split (fun h => ?_) (fun h => ?_) <;> (try simp at h) <;> (try simp [-cB, *]))
      | (refine AOps.pureC rfl (hx) rfl rfl (by simp) rfl ?_ <;> (try simp [-cB, *]))
      | (refine AOps.lendC rfl (hx) rfl (by simp) rfl rfl (by simp) rfl ?_ <;> (try simp [-cB, *]))
      | (refine AOps.pureG rfl (fun h => hx) rfl (by first | rfl | (simp; rfl)) (by simp) (by simp) rfl ?_ <;> (try simp [-cB, *]))
      | (with_reducible intro _))
    all_goals (first | assumption | omega | (rw [inR_i64]; omega) | (simp_all; done) | grind | skip)
  · intro hH
    simp [*]
def nothingB (t : GTables) (x : GThing) : Bool :=
  decide (x.Title = 0) && decide (x.Text = -1) && decide (x.Parent = 0) && decide (x.Flags = 0) && !x.Room && decide (x.Props.length = t.Props.length) && decide (x.Words.length + x.Adjs.length + x.Ways.length = 0) && allB (fun n => decide (n = 0)) x.Props
set_option maxRecDepth 20000 in
theorem refNothing_ok (t : GTables) (ht : t.wf) (x : GThing) (hx : x.wf) : Pure Tryz.prog 68 [.agg (t.enc.map .d), .agg (x.enc.map .d)] (.d (.v (.bool (nothingB t x)))) := by
  have hx' := hx
  simp [GThing.wf] at hx'
  unfold nothingB
  refine Pure.run Tryz.func68 rfl (by simp [Tryz.f68]) ?_; simp [-cB, Tryz.f68]
  repeat' (first
    | (with_reducible refine And.intro ?_ ?_)
    | (refine condC_split (fun h => ?_) (fun h => ?_) <;> (try simp at h) <;> (try simp [-cB, *]))
    | (refine AOps.pureC rfl (refFrom_ok _ _ _) rfl rfl (by simp) rfl ?_ <;> (try simp [-cB, *]))
    | (refine AOps.lendC rfl (refFrom_ok _ _ _) rfl (by simp) rfl rfl (by simp) rfl ?_ <;> (try simp [-cB, *]))
    | (refine AOps.pureG rfl (fun h => refFrom_ok _ _ _) rfl (by first | rfl | (simp; rfl)) (by simp) (by simp) rfl ?_ <;> (try simp [-cB, *]))
    | (with_reducible intro _))
  obtain ⟨-, -, -, -, hq1, -, hq2, -, hq3, -, hq4, -⟩ := hx'
  all_goals (first | assumption | omega | (rw [inR_i64]; omega) | (simp_all; done) | grind | skip)
  have hz : decide (x.Words = []) = true ∧ decide (x.Adjs = []) = true ∧ decide (x.Ways = []) = true := by
    have h1 : x.Words.length = 0 := by omega
    have h2 : x.Adjs.length = 0 := by omega
    have h3 : x.Ways.length = 0 := by omega
    simp [List.length_eq_zero_iff] at h1 h2 h3
    simp [h1, h2, h3]
  have hp : decide (x.Props.length = t.Props.length) = true := by simp; omega
  refine AWP.loopL [3, 5] x.Props (fun pre => [(5, .d (.v (.int .i64 pre.length)))]) (fun _ => []) (fun pre => allB (fun n => decide (n = 0)) pre = true) (by rfl) (by omega) (by simp [allB_nil]) ?_ ?_
  · rintro pre x1 post hsp hH hlt hge a4
    have hall := allB_split hsp hH
    have hsn : allB (fun n => decide (n = 0)) (pre ++ [x1]) = decide (x1 = 0) := by simp [allB_snoc, hH]
    clear hsp h
    simp [-cB, *]
    repeat' (first
      | (with_reducible refine And.intro ?_ ?_)
      | (refine condC_split (fun h => ?_) (fun h => ?_) <;> (try simp at h) <;> (try simp [-cB, *]))
      | (refine AOps.pureC rfl (refRow_ok _) rfl rfl (by simp) rfl ?_ <;> (try simp [-cB, *]))
      | (refine AOps.lendC rfl (refRow_ok _) rfl (by simp) rfl rfl (by simp) rfl ?_ <;> (try simp [-cB, *]))
      | (refine AOps.pureG rfl (fun h => refRow_ok _) rfl (by first | rfl | (simp; rfl)) (by simp) (by simp) rfl ?_ <;> (try simp [-cB, *]))
      | (with_reducible intro _))
    all_goals (first | assumption | omega | (rw [inR_i64]; omega) | (simp_all; done) | grind | skip)
  · intro hH
    clear h
    simp [*]
def bitsM (n : Int) : Int := 2 ^ (min n.toNat 16)
theorem refBits_ok (n : Int) : Pure Tryz.prog 30 [.d (.v (.int .i64 n))] (.d (.v (.int .i64 (bitsM n)))) := by
  refine Pure.run Tryz.func30 rfl (by simp [Tryz.f30]) ?_; simp [Tryz.f30]
  refine AWP.loopS [0, 3, 4] (min n.toNat 16) (fun i => [(3, .d (.v (.int .i64 (2 ^ i)))), (4, .d (.v (.int .i64 i)))]) (fun _ => []) (fun _ => True) (by rfl) (by simp) ?_
  intro i hi _
  have h16 : i ≤ 16 := by omega
  have hp : (2 : Int) ^ i ≤ 65536 ∧ (0 : Int) < 2 ^ i := by
    have e : (2 : Int) ^ i = ((2 ^ i : Nat) : Int) := by simp
    have := Nat.pow_le_pow_right (n := 2) (by decide) h16
    have := Nat.pow_pos (a := 2) (n := i) (by decide)
    rw [e]; omega
  have hs : (2 : Int) ^ (i + 1) = 2 * 2 ^ i := by rw [Int.pow_succ]; omega
  simp
  refine ⟨fun h1 h2 => ⟨by rw [inR_i64]; omega, by rw [inR_i64]; omega, by omega, by omega⟩, fun h => ?_⟩
  unfold bitsM
  rw [show min n.toNat 16 = i by omega]
end Go.Ab

namespace Go.Ab
open Go.Proofs
def wrapM (n : Int) : Int := IntKind.wrap .i16 n
theorem wrapM_eq (n : Int) : wrapM n = (n + 32768) % 65536 - 32768 := by
  unfold wrapM IntKind.wrap
  simp [IntKind.signed, IntKind.bits]
  try omega
theorem Pure.none {f : FuncId} {args : List V} {x : V} (h : False) : Pure Tryz.prog f args x := h.elim
theorem wrapM_bd (n : Int) : -32768 ≤ wrapM n ∧ wrapM n ≤ 32767 := by rw [wrapM_eq]; omega
theorem wrapM_id {n : Int} (h : -32768 ≤ n ∧ n ≤ 32767) : wrapM n = n := by rw [wrapM_eq]; omega
theorem wrapM_wrapM (n : Int) : wrapM (wrapM n) = wrapM n := wrapM_id (wrapM_bd n)
theorem wrap64 {n : Int} (h : inR .i64 n) : IntKind.wrap .i64 n = n := by
  rw [inR_i64] at h
  unfold IntKind.wrap
  simp [IntKind.signed, IntKind.bits]
  try omega
theorem wrap_ok (n : Int) : Pure Tryz.prog 88 [.d (.v (.int .i64 n))] (.d (.v (.int .i64 (wrapM n)))) := by
  have h0 : inR .i64 (wrapM n) := by have := wrapM_bd n; rw [inR_i64]; omega
  have h1 := wrap64 h0
  refine Pure.run Tryz.func88 rfl (by simp [Tryz.f88]) ?_; simp [-cB, Tryz.f88]
  exact h1
def addM (a b : Int) : Int := wrapM (wrapM a + wrapM b)
def subM (a b : Int) : Int := wrapM (wrapM a - wrapM b)
def mulM (a b : Int) : Int := wrapM (wrapM a * wrapM b)
def negM (a : Int) : Int := wrapM (0 - wrapM a)
def divM (a b : Int) : Int × Int := if wrapM b = 0 then (0, 1) else (wrapM ((wrapM a).tdiv (wrapM b)), 0)
def modM (a b : Int) : Int × Int := if wrapM b = 0 then (0, 1) else (wrapM ((wrapM a).tmod (wrapM b)), 0)
theorem mul_bd {a b : Int} (ha : -32768 ≤ a ∧ a ≤ 32767) (hb : -32768 ≤ b ∧ b ≤ 32767) : -1073741824 ≤ a * b ∧ a * b ≤ 1073741824 := by
  have h1 : a * b ≤ a.natAbs * b.natAbs := by
    have : (a * b).natAbs = a.natAbs * b.natAbs := Int.natAbs_mul a b
    omega
  have h2 : -(a.natAbs * b.natAbs : Int) ≤ a * b := by
    have : (a * b).natAbs = a.natAbs * b.natAbs := Int.natAbs_mul a b
    omega
  have h3 : a.natAbs * b.natAbs ≤ 32768 * 32768 := Nat.mul_le_mul (by omega) (by omega)
  omega
def pr2 (p : Int × Int) : V := .tup [.d (.v (.int .i64 p.1)), .d (.v (.int .i64 p.2))]
theorem add_ok (a b : Int) : Pure Tryz.prog 224 [.d (.v (.int .i64 a)), .d (.v (.int .i64 b))] (.d (.v (.int .i64 (addM a b)))) := by
  have ha := wrapM_bd a
  have hb := wrapM_bd b
  have h : inR .i64 (wrapM a + wrapM b) := by rw [inR_i64]; omega
  refine Pure.run Tryz.func224 rfl (by simp [Tryz.f224]) ?_; simp [-cB, Tryz.f224]
  try intro (_ : Nat → Nat)
  repeat' (first
    | (with_reducible refine And.intro ?_ ?_)
    | (refine condC_split (fun h => ?_) (fun h => ?_) <;> (try simp at h) <;> (try simp [-cB, *]))
    | (refine AOps.pureC rfl (wrap_ok _) rfl rfl (by simp) rfl ?_ <;> (try simp [-cB, *]))
    | (refine AOps.lendC rfl (wrap_ok _) rfl (by simp) rfl rfl (by simp) rfl ?_ <;> (try simp [-cB, *]))
    | (refine AOps.pureG rfl (fun h => wrap_ok _) rfl (by first | rfl | (simp; rfl)) (by simp) (by simp) rfl ?_ <;> (try simp [-cB, *]))
    | (with_reducible intro _))
  rfl
theorem sub_ok (a b : Int) : Pure Tryz.prog 225 [.d (.v (.int .i64 a)), .d (.v (.int .i64 b))] (.d (.v (.int .i64 (subM a b)))) := by
  have ha := wrapM_bd a
  have hb := wrapM_bd b
  have h : inR .i64 (wrapM a - wrapM b) := by rw [inR_i64]; omega
  refine Pure.run Tryz.func225 rfl (by simp [Tryz.f225]) ?_; simp [-cB, Tryz.f225]
  try intro (_ : Nat → Nat)
  repeat' (first
    | (with_reducible refine And.intro ?_ ?_)
    | (refine condC_split (fun h => ?_) (fun h => ?_) <;> (try simp at h) <;> (try simp [-cB, *]))
    | (refine AOps.pureC rfl (wrap_ok _) rfl rfl (by simp) rfl ?_ <;> (try simp [-cB, *]))
    | (refine AOps.lendC rfl (wrap_ok _) rfl (by simp) rfl rfl (by simp) rfl ?_ <;> (try simp [-cB, *]))
    | (refine AOps.pureG rfl (fun h => wrap_ok _) rfl (by first | rfl | (simp; rfl)) (by simp) (by simp) rfl ?_ <;> (try simp [-cB, *]))
    | (with_reducible intro _))
  rfl
theorem mul_ok (a b : Int) : Pure Tryz.prog 226 [.d (.v (.int .i64 a)), .d (.v (.int .i64 b))] (.d (.v (.int .i64 (mulM a b)))) := by
  have h : inR .i64 (wrapM a * wrapM b) := by have := mul_bd (wrapM_bd a) (wrapM_bd b); rw [inR_i64]; omega
  refine Pure.run Tryz.func226 rfl (by simp [Tryz.f226]) ?_; simp [-cB, Tryz.f226]
  try intro (_ : Nat → Nat)
  repeat' (first
    | (with_reducible refine And.intro ?_ ?_)
    | (refine condC_split (fun h => ?_) (fun h => ?_) <;> (try simp at h) <;> (try simp [-cB, *]))
    | (refine AOps.pureC rfl (wrap_ok _) rfl rfl (by simp) rfl ?_ <;> (try simp [-cB, *]))
    | (refine AOps.lendC rfl (wrap_ok _) rfl (by simp) rfl rfl (by simp) rfl ?_ <;> (try simp [-cB, *]))
    | (refine AOps.pureG rfl (fun h => wrap_ok _) rfl (by first | rfl | (simp; rfl)) (by simp) (by simp) rfl ?_ <;> (try simp [-cB, *]))
    | (with_reducible intro _))
  rfl
theorem neg_ok (a : Int) : Pure Tryz.prog 158 [.d (.v (.int .i64 a))] (.d (.v (.int .i64 (negM a)))) := by
  have h : inR .i64 (- wrapM a) := by have := wrapM_bd a; rw [inR_i64]; omega
  rw [negM, Int.zero_sub]
  refine Pure.run Tryz.func158 rfl (by simp [Tryz.f158]) ?_; simp [-cB, Tryz.f158]
  try intro (_ : Nat → Nat)
  repeat' (first
    | (with_reducible refine And.intro ?_ ?_)
    | (refine condC_split (fun h => ?_) (fun h => ?_) <;> (try simp at h) <;> (try simp [-cB, *]))
    | (refine AOps.pureC rfl (wrap_ok _) rfl rfl (by simp) rfl ?_ <;> (try simp [-cB, *]))
    | (refine AOps.lendC rfl (wrap_ok _) rfl (by simp) rfl rfl (by simp) rfl ?_ <;> (try simp [-cB, *]))
    | (refine AOps.pureG rfl (fun h => wrap_ok _) rfl (by first | rfl | (simp; rfl)) (by simp) (by simp) rfl ?_ <;> (try simp [-cB, *]))
    | (with_reducible intro _))
theorem tdiv_bd {a b : Int} (ha : -32768 ≤ a ∧ a ≤ 32767) : -32768 ≤ a.tdiv b ∧ a.tdiv b ≤ 32768 := by
  have : (a.tdiv b).natAbs ≤ a.natAbs := by rw [Int.natAbs_tdiv]; exact Nat.div_le_self _ _
  omega
theorem i64_tdiv {a b : Int} (ha : -32768 ≤ a ∧ a ≤ 32767) : IntKind.wrap .i64 (a.tdiv b) = a.tdiv b := wrap64 (by have := tdiv_bd (b := b) ha; rw [inR_i64]; omega)
theorem div_ok (a b : Int) : Pure Tryz.prog 227 [.d (.v (.int .i64 a)), .d (.v (.int .i64 b))] (pr2 (divM a b)) := by
  have h := i64_tdiv (b := wrapM b) (wrapM_bd a)
  unfold pr2 divM
  refine Pure.run Tryz.func227 rfl (by simp [Tryz.f227]) ?_; simp [-cB, Tryz.f227]
  try intro (_ : Nat → Nat)
  repeat' (first
    | (with_reducible refine And.intro ?_ ?_)
    | (refine condC_split (fun h => ?_) (fun h => ?_) <;> (try simp at h) <;> (try simp [-cB, *]))
    | (refine AOps.pureC rfl (wrap_ok _) rfl rfl (by simp) rfl ?_ <;> (try simp [-cB, *]))
    | (refine AOps.lendC rfl (wrap_ok _) rfl (by simp) rfl rfl (by simp) rfl ?_ <;> (try simp [-cB, *]))
    | (refine AOps.pureG rfl (fun h => wrap_ok _) rfl (by first | rfl | (simp; rfl)) (by simp) (by simp) rfl ?_ <;> (try simp [-cB, *]))
    | (with_reducible intro _))
theorem mod_ok (a b : Int) : Pure Tryz.prog 228 [.d (.v (.int .i64 a)), .d (.v (.int .i64 b))] (pr2 (modM a b)) := by
  unfold pr2 modM
  refine Pure.run Tryz.func228 rfl (by simp [Tryz.f228]) ?_; simp [-cB, Tryz.f228]
  try intro (_ : Nat → Nat)
  repeat' (first
    | (with_reducible refine And.intro ?_ ?_)
    | (refine condC_split (fun h => ?_) (fun h => ?_) <;> (try simp at h) <;> (try simp [-cB, *]))
    | (refine AOps.pureC rfl (wrap_ok _) rfl rfl (by simp) rfl ?_ <;> (try simp [-cB, *]))
    | (refine AOps.lendC rfl (wrap_ok _) rfl (by simp) rfl rfl (by simp) rfl ?_ <;> (try simp [-cB, *]))
    | (refine AOps.pureG rfl (fun h => wrap_ok _) rfl (by first | rfl | (simp; rfl)) (by simp) (by simp) rfl ?_ <;> (try simp [-cB, *]))
    | (with_reducible intro _))
end Go.Ab

namespace Go.Ab
open Go.Proofs
def thrownV (e : Int) : V := .d (.ifc 149 true [.v (.int .i64 e)])
def overV : V := .d (.ifc 147 true [])
def retdV (n : Int) : V := .d (.ifc 151 true [.v (.int .i64 n)])
theorem must_ok (e : Int) : ACalls Tryz.prog 86 [.d (.v (.int .i64 e))] [] (fun r L => L = [] ∧ r = if e = 0 then .ret (.tup []) else .pan (thrownV e)) := by
  refine ACalls.run Tryz.func86 rfl (by simp [Tryz.f86]) ?_
  simp [-cB, Tryz.f86]
  refine condC_split (fun h => ?_) (fun h => ?_) <;> simp at h
  · simp [-cB, h]
    refine AOps.panic rfl rfl rfl ?_
    simp [h, thrownV]
  · simp [-cB, h]
end Go.Ab

namespace Go.Ab
def atI (l : List Int) (i : Int) : Int := if i < 0 then 0 else l[i.toNat]?.getD 0
def isT (n : Nat) (x : Int) : Bool := decide (1 ≤ x ∧ x < n)
theorem isT_iff {n : Nat} {x : Int} : isT n x = true ↔ 1 ≤ x ∧ x < n := by simp [isT]
def chainM (nx : List Int) (n : Nat) : Nat → Int → List Int
  | 0, _ => []
  | k + 1, c => if isT n c then c :: chainM nx n k (atI nx c) else []
theorem chainM_len (nx : List Int) (n : Nat) : ∀ k c, (chainM nx n k c).length ≤ k
  | 0, c => by simp [chainM]
  | k + 1, c => by
    rw [chainM]
    split
    · have := chainM_len nx n k (atI nx c); simp; omega
    · simp
theorem chainM_mem {nx : List Int} {n : Nat} : ∀ {k c x}, x ∈ chainM nx n k c → 1 ≤ x ∧ x < n
  | 0, c, x, h => by simp [chainM] at h
  | k + 1, c, x, h => by
    rw [chainM] at h
    split at h
    · rename_i hc
      rcases List.mem_cons.1 h with rfl | h
      · exact isT_iff.1 hc
      · exact chainM_mem h
    · simp at h
inductive Ch (nx : List Int) (n : Nat) : Int → List Int → Prop
  | nil : Ch nx n 0 []
  | cons {c : Int} {l : List Int} (h : 1 ≤ c ∧ c < n) (t : Ch nx n (atI nx c) l) : Ch nx n c (c :: l)
theorem Ch.mem {nx : List Int} {n : Nat} {c : Int} {l : List Int} (h : Ch nx n c l) : ∀ x ∈ l, 1 ≤ x ∧ x < n := by
  induction h with
  | nil => simp
  | cons h t ih =>
    intro x hx
    rcases List.mem_cons.1 hx with rfl | hx
    · exact h
    · exact ih x hx
theorem Ch.uniq {nx : List Int} {n : Nat} {c : Int} {l l' : List Int} (h : Ch nx n c l) (h' : Ch nx n c l') : l = l' := by
  induction h generalizing l' with
  | nil => cases h' with
    | nil => rfl
    | cons h t => omega
  | cons h t ih => cases h' with
    | nil => omega
    | cons h' t' => rw [ih t']
theorem Ch.chain {nx : List Int} {n : Nat} {c : Int} {l : List Int} (h : Ch nx n c l) : ∀ k, l.length ≤ k → chainM nx n k c = l := by
  induction h with
  | nil => intro k _; cases k <;> simp [chainM, isT]
  | cons h t ih =>
    intro k hk
    simp only [List.length_cons] at hk
    obtain ⟨k, rfl⟩ : ∃ j, k = j + 1 := ⟨k - 1, by omega⟩
    rw [chainM, if_pos (isT_iff.2 h), ih k (by omega)]
theorem Ch.nodup {nx : List Int} {n : Nat} {c : Int} {l : List Int} (h : Ch nx n c l) : l.Nodup := by
  induction h with
  | nil => simp
  | @cons c l h t ih =>
    refine List.nodup_cons.2 ⟨fun hm => ?_, ih⟩
    obtain ⟨a, b, rfl⟩ := List.append_of_mem hm
    have sub : ∀ {a : List Int} {d : Int}, Ch nx n d (a ++ c :: b) → Ch nx n c (c :: b) := by
      intro a
      induction a with
      | nil => intro d hd; cases hd with
        | cons h t => exact .cons h t
      | cons y a iha => intro d hd; cases hd with
        | cons h t => exact iha t
    have h1 := sub t
    have h2 := (Ch.cons h t).uniq h1
    have := congrArg List.length h2
    simp at this
    omega
theorem nodup_lt {n : Nat} {l : List Int} (h : l.Nodup) (hm : ∀ x ∈ l, 1 ≤ x ∧ x < n) : l.length < n ∨ l = [] := by
  have key : ∀ (n : Nat) (l : List Int), l.Nodup → (∀ x ∈ l, 1 ≤ x ∧ x < n) → l.length ≤ n - 1 := by
    intro n
    induction n with
    | zero =>
      intro l _ hm
      cases l with
      | nil => simp
      | cons x l => have := hm x List.mem_cons_self; omega
    | succ n ih =>
      intro l hd hm
      by_cases hn : (n : Int) ∈ l
      · have h1 := ih (l.erase n) (hd.erase _) (fun x hx => by
          have h2 := hm x (List.mem_of_mem_erase hx)
          have h3 : x ≠ n := fun e => by subst e; exact (hd.not_mem_erase hx)
          omega)
        rw [List.length_erase_of_mem hn] at h1
        have := List.length_pos_of_mem hn
        have h4 := hm n hn
        omega
      · have := ih l hd (fun x hx => by
          have h2 := hm x hx
          have h3 : x ≠ n := fun e => hn (e ▸ hx)
          omega)
        omega
  cases l with
  | nil => exact .inr rfl
  | cons x l =>
    have := key n _ h hm
    have h2 := hm x List.mem_cons_self
    left
    simp at this ⊢
    omega
theorem Ch.len {nx : List Int} {n : Nat} {c : Int} {l : List Int} (h : Ch nx n c l) : l.length ≤ n := by
  rcases nodup_lt h.nodup h.mem with h | h
  · omega
  · simp [h]
theorem Ch.full {nx : List Int} {n : Nat} {c : Int} {l : List Int} (h : Ch nx n c l) : chainM nx n n c = l := h.chain n h.len
theorem Ch.keep {nx nx' : List Int} {n : Nat} {c : Int} {l : List Int} (h : Ch nx n c l) (hk : ∀ x ∈ l, atI nx' x = atI nx x) : Ch nx' n c l := by
  induction h with
  | nil => exact .nil
  | cons h t ih =>
    refine .cons h ?_
    rw [hk _ List.mem_cons_self]
    exact ih (fun x hx => hk x (List.mem_cons_of_mem _ hx))
structure Tree where
  Par : List Int
  Chi : List Int
  Nxt : List Int
structure Nest (t : Tree) (n : Nat) (ls : Int → List Int) : Prop where
  pos : 0 < n
  lp : t.Par.length = n
  lc : t.Chi.length = n
  ln : t.Nxt.length = n
  p0 : atI t.Par 0 = 0
  c0 : atI t.Chi 0 = 0
  n0 : atI t.Nxt 0 = 0
  ch : ∀ x : Int, 1 ≤ x → x < n → Ch t.Nxt n (atI t.Chi x) (ls x)
  par : ∀ x : Int, 1 ≤ x → x < n → ∀ y ∈ ls x, atI t.Par y = x
  up : ∀ x : Int, 1 ≤ x → x < n → atI t.Par x = 0 ∧ atI t.Nxt x = 0 ∨ (1 ≤ atI t.Par x ∧ atI t.Par x < n) ∧ x ∈ ls (atI t.Par x)
  ends : ∀ x : Int, 1 ≤ x → x < n → ∃ l, Ch t.Par n x l
def kidsM (t : Tree) (x : Int) : List Int := if isT t.Par.length x then chainM t.Nxt t.Par.length t.Par.length (atI t.Chi x) else []
def upsM (t : Tree) (x : Int) : List Int := chainM t.Par t.Par.length t.Par.length x
def topM (t : Tree) (x : Int) : Int := (upsM t x).getLastD 0
theorem Nest.kids {t : Tree} {n : Nat} {ls : Int → List Int} (h : Nest t n ls) {x : Int} (hx : 1 ≤ x ∧ x < n) : kidsM t x = ls x := by
  rw [kidsM, h.lp, if_pos (isT_iff.2 hx), (h.ch x hx.1 hx.2).full]
def listedB (t : Tree) (x : Int) : Bool :=
  (kidsM t x).all (fun y => decide (atI t.Par y = x) && decide ((kidsM t x).count y = 1)) &&
    decide ((match (kidsM t x).getLast? with | some y => atI t.Nxt y | none => atI t.Chi x) = 0)
theorem chain_ch {nx : List Int} {n : Nat} (h0 : atI nx 0 = 0) : ∀ {k : Nat} {c : Int}, (chainM nx n k c).length < k ∨ (chainM nx n k c).Nodup ∧ n ≤ k →
    (match (chainM nx n k c).getLast? with | some y => atI nx y | none => c) = 0 → Ch nx n c (chainM nx n k c) := by
  intro k
  induction k with
  | zero =>
    intro c hd he
    simp only [chainM, List.getLast?_nil] at he ⊢
    subst he
    exact .nil
  | succ k ih =>
    intro c hd he
    rw [chainM] at hd he ⊢
    by_cases hc : isT n c = true
    · rw [if_pos hc] at hd he ⊢
      have hlast : (match (chainM nx n k (atI nx c)).getLast? with | some y => atI nx y | none => atI nx c) = 0 := by
        rw [List.getLast?_cons] at he
        cases hl : (chainM nx n k (atI nx c)).getLast? with
        | none => simpa [hl] using he
        | some y => simpa [hl] using he
      refine .cons (isT_iff.1 hc) ?_
      cases k with
      | zero => simp only [chainM, List.getLast?_nil] at hlast ⊢; rw [hlast]; exact .nil
      | succ k =>
        refine ih ?_ hlast
        rcases hd with hd | ⟨hd, hn⟩
        · left; simpa using hd
        · -- there are fewer things than rounds
          left
          have h1 := nodup_lt hd (fun x hx => by
            rcases List.mem_cons.1 hx with rfl | hx
            · exact isT_iff.1 hc
            · exact chainM_mem hx)
          rcases h1 with h1 | h1
          · simp only [List.length_cons] at h1; omega
          · cases h1
    · rw [if_neg hc] at hd he ⊢
      simp only [List.getLast?_nil] at he
      subst he
      exact .nil
end Go.Ab

namespace Go.Ab
open Go.Proofs
def GWorld.tree (w : GWorld) : Tree := ⟨w.Parent, w.Child, w.Next⟩
def nxtN (nx : List Int) : Nat → Int → Int
  | 0, c => c
  | k + 1, c => nxtN nx k (atI nx c)
theorem nxtN_succ (nx : List Int) : ∀ (k : Nat) (c : Int), nxtN nx (k + 1) c = atI nx (nxtN nx k c)
  | 0, c => rfl
  | k + 1, c => by rw [nxtN, nxtN_succ nx k]; rfl
theorem chainM_go (nx : List Int) (n : Nat) : ∀ (i k : Nat) (c : Int), (∀ j < i, isT n (nxtN nx j c) = true) → chainM nx n (i + k) c = (List.range i).map (fun j => nxtN nx j c) ++ chainM nx n k (nxtN nx i c)
  | 0, k, c, _ => by rw [Nat.zero_add]; rfl
  | i + 1, k, c, h => by
    have h0 : isT n c = true := h 0 (by omega)
    rw [show i + 1 + k = (i + k) + 1 by omega, chainM, if_pos h0, chainM_go nx n i k (atI nx c) (fun j hj => h (j + 1) (by omega)), List.range_succ_eq_map]
    simp [nxtN, Function.comp_def]
def firstN (nx : List Int) (i : Nat) (c : Int) : List Int := (List.range i).map (fun j => nxtN nx j c)
theorem firstN_succ (nx : List Int) (i : Nat) (c : Int) : firstN nx (i + 1) c = firstN nx i c ++ [nxtN nx i c] := by simp [firstN, List.range_succ]
theorem firstN_len (nx : List Int) (i : Nat) (c : Int) : (firstN nx i c).length = i := by simp [firstN]
theorem chainM_stop {nx : List Int} {n i : Nat} {c : Int} (h : ∀ j < i, isT n (nxtN nx j c) = true) (hs : isT n (nxtN nx i c) = false ∨ i = n) (hi : i ≤ n) : chainM nx n n c = firstN nx i c := by
  have := chainM_go nx n i (n - i) c h
  rw [show i + (n - i) = n by omega] at this
  rw [this]
  rcases hs with hs | hs
  · cases hk : n - i with
    | zero => simp [chainM, firstN]
    | succ k => rw [chainM, if_neg (by simp [hs])]; simp [firstN]
  · rw [hs, Nat.sub_self]; simp [chainM, firstN]
theorem refIsW_ok (w : GWorld) (x : Int) : Pure Tryz.prog 76 [.agg (w.enc.map .d), .d (.v (.int .i64 x))] (.d (.v (.bool (isT w.Parent.length x)))) := by
  refine Pure.run Tryz.func76 rfl (by simp [Tryz.f76]) ?_; simp [-cB, Tryz.f76]
  simp [isT]
theorem refAt_ok (l : List Int) (i : Int) : Pure Tryz.prog 142 [.d (.sl (encI l)), .d (.v (.int .i64 i))] (.d (.v (.int .i64 (atI l i)))) := by
  unfold atI
  refine Pure.run Tryz.func142 rfl (by simp [Tryz.f142]) ?_; simp [-cB, Tryz.f142]
  repeat' (first
    | (with_reducible refine And.intro ?_ ?_)
    | (refine condC_split (fun h => ?_) (fun h => ?_) <;> (try simp at h) <;> (try simp [-cB, *]))
    | (refine AOps.pureC rfl (Pure.none) rfl rfl (by simp) rfl ?_ <;> (try simp [-cB, *]))
    | (refine AOps.lendC rfl (Pure.none) rfl (by simp) rfl rfl (by simp) rfl ?_ <;> (try simp [-cB, *]))
    | (refine AOps.pureG rfl (fun h => Pure.none) rfl (by first | rfl | (simp; rfl)) (by simp) (by simp) rfl ?_ <;> (try simp [-cB, *]))
    | (with_reducible intro _))
  · rw [List.getElem?_eq_none (by omega)]; rfl
  · omega
theorem refChildren_ok (w : GWorld) (hw : w.wf) (x : Int) : Pure Tryz.prog 79 [.agg (w.enc.map .d), .d (.v (.int .i64 x))] (.d (.sl (encI (kidsM w.tree x)))) := by
  have hl := GWorld.wl_Parent hw
  have e1 : w.tree.Par = w.Parent := rfl
  have e2 : w.tree.Chi = w.Child := rfl
  have e3 : w.tree.Nxt = w.Next := rfl
  unfold kidsM
  rw [e1, e2, e3]
  cases hx : isT w.Parent.length x with
  | false =>
    refine Pure.run Tryz.func79 rfl (by simp [Tryz.f79]) ?_; simp [-cB, Tryz.f79]
    try intro (_ : Nat → Nat)
    refine AOps.weaken (Wk.nil' (t := 5) rfl) ?_
    repeat' (first
      | (with_reducible refine And.intro ?_ ?_)
      | (refine condC_split (fun h => ?_) (fun h => ?_) <;> (try simp at h) <;> (try simp [-cB, *]))
      | (refine AOps.pureC rfl (refIsW_ok _ _) rfl rfl (by simp) rfl ?_ <;> (try simp [-cB, *]))
      | (refine AOps.pureC rfl (refAt_ok _ _) rfl rfl (by simp) rfl ?_ <;> (try simp [-cB, *]))
      | (refine AOps.lendC rfl (refIsW_ok _ _) rfl (by simp) rfl rfl (by simp) rfl ?_ <;> (try simp [-cB, *]))
      | (refine AOps.lendC rfl (refAt_ok _ _) rfl (by simp) rfl rfl (by simp) rfl ?_ <;> (try simp [-cB, *]))
      | (refine AOps.pureG rfl (fun h => refIsW_ok _ _) rfl (by first | rfl | (simp; rfl)) (by simp) (by simp) rfl ?_ <;> (try simp [-cB, *]))
      | (refine AOps.pureG rfl (fun h => refAt_ok _ _) rfl (by first | rfl | (simp; rfl)) (by simp) (by simp) rfl ?_ <;> (try simp [-cB, *]))
      | (with_reducible intro _))
  | true =>
    refine Pure.run Tryz.func79 rfl (by simp [Tryz.f79]) ?_; simp [-cB, Tryz.f79]
    try intro (_ : Nat → Nat)
    repeat' (first
      | (with_reducible refine And.intro ?_ ?_)
      | (refine condC_split (fun h => ?_) (fun h => ?_) <;> (try simp at h) <;> (try simp [-cB, *]))
      | (refine AOps.pureC rfl (refIsW_ok _ _) rfl rfl (by simp) rfl ?_ <;> (try simp [-cB, *]))
      | (refine AOps.pureC rfl (refAt_ok _ _) rfl rfl (by simp) rfl ?_ <;> (try simp [-cB, *]))
      | (refine AOps.lendC rfl (refIsW_ok _ _) rfl (by simp) rfl rfl (by simp) rfl ?_ <;> (try simp [-cB, *]))
      | (refine AOps.lendC rfl (refAt_ok _ _) rfl (by simp) rfl rfl (by simp) rfl ?_ <;> (try simp [-cB, *]))
      | (refine AOps.pureG rfl (fun h => refIsW_ok _ _) rfl (by first | rfl | (simp; rfl)) (by simp) (by simp) rfl ?_ <;> (try simp [-cB, *]))
      | (refine AOps.pureG rfl (fun h => refAt_ok _ _) rfl (by first | rfl | (simp; rfl)) (by simp) (by simp) rfl ?_ <;> (try simp [-cB, *]))
      | (with_reducible intro _))
    generalize hc : atI w.Child x = c
    refine AWP.weaken (Wk.own' (t := 5) (h := 30) (k := 1) (ty := 3) rfl (by simp)) ?_
    refine AWP.loopS [2, 5, 6, 7] w.Parent.length (fun i => [(6, .d (.v (.int .i64 (nxtN w.Next i c)))), (7, .d (.v (.int .i64 i)))]) (fun i => [(30, .row 3 1 (dd (encI (firstN w.Next i c))))]) (fun i => ∀ j < i, isT w.Parent.length (nxtN w.Next j c) = true) (by rfl) (by simp [nxtN, firstN, encI]) ?_
    intro i hi hH
    have hs := nxtN_succ w.Next i c
    have hf := firstN_succ w.Next i c
    have hfl := firstN_len w.Next i c
    rcases Nat.lt_or_eq_of_le hi with hlt | rfl
    · have a4 : inR .i64 ((i : Int) + 1) := by rw [inR_i64]; omega
      cases hT : isT w.Parent.length (nxtN w.Next i c) with
      | false =>
        have hst := chainM_stop hH (.inl hT) hi
        simp [-cB, hlt]
        refine AOps.pureG rfl (fun h => refIsW_ok w _) rfl (by first | rfl | (simp; rfl)) (by simp) (by simp) rfl ?_
        simp [-cB, hT, hst]
      | true =>
        have hH2 : ∀ j < i + 1, isT w.Parent.length (nxtN w.Next j c) = true := fun j hj => by
          rcases Nat.lt_or_ge j i with h | h
          · exact hH j h
          · rw [show j = i by omega]; exact hT
        simp [-cB, hlt]
        refine AOps.pureG rfl (fun h => refIsW_ok w _) rfl (by first | rfl | (simp; rfl)) (by simp) (by simp) rfl ?_
        simp [-cB, hT, hs, hf, hfl]
        refine ⟨by omega, ?_⟩
        repeat' (first
          | (with_reducible refine And.intro ?_ ?_)
          | (refine condC_split (fun h => ?_) (fun h => ?_) <;> (try simp at h) <;> (try simp [-cB, *]))
          | (refine AOps.pureC rfl (refAt_ok _ _) rfl rfl (by simp) rfl ?_ <;> (try simp [-cB, *]))
          | (refine AOps.lendC rfl (refAt_ok _ _) rfl (by simp) rfl rfl (by simp) rfl ?_ <;> (try simp [-cB, *]))
          | (refine AOps.pureG rfl (fun h => refAt_ok _ _) rfl (by first | rfl | (simp; rfl)) (by simp) (by simp) rfl ?_ <;> (try simp [-cB, *]))
          | (with_reducible intro _))
        exact hH2 _ (by assumption)
    · have hst := chainM_stop hH (.inr rfl) hi
      simp [-cB]
      refine AOps.pureG rfl (fun h => refIsW_ok w _) rfl (by first | rfl | (simp; rfl)) (by simp) (by simp) rfl ?_
      simp [-cB, hst]
theorem atI_elem {l : List Int} {x : Int} (h : isT l.length x = true) : l[x.toNat]'(by have := isT_iff.1 h; omega) = atI l x := by
  have := isT_iff.1 h
  rw [atI, if_neg (by omega), List.getElem?_eq_getElem (by omega)]
  rfl
theorem atI_getD {l : List Int} {x : Int} (h : isT l.length x = true) : l[x.toNat]?.getD 0 = atI l x := by
  have := isT_iff.1 h
  rw [atI, if_neg (by omega)]
theorem chainM_in {nx : List Int} {n i : Nat} {c : Int} (h : ∀ j < i + 1, isT n (nxtN nx j c) = true) (hi : i < n) : nxtN nx i c ∈ chainM nx n n c := by
  have := chainM_go nx n (i + 1) (n - (i + 1)) c h
  rw [show i + 1 + (n - (i + 1)) = n by omega] at this
  rw [this]
  exact List.mem_append_left _ (List.mem_map.2 ⟨i, List.mem_range.2 (by omega), rfl⟩)
theorem refwithin_ok (w : GWorld) (hw : w.wf) (x y : Int) : Pure Tryz.prog 80 [.agg (w.enc.map .d), .d (.v (.int .i64 x)), .d (.v (.int .i64 y))] (.d (.v (.bool (decide (y ∈ upsM w.tree x))))) := by
  have hl := GWorld.wl_Parent hw
  have e1 : w.tree.Par = w.Parent := rfl
  unfold upsM
  rw [e1]
  refine Pure.run Tryz.func80 rfl (by simp [Tryz.f80]) ?_; simp [-cB, Tryz.f80]
  try intro (_ : Nat → Nat)
  refine AWP.loopS [1, 2, 3, 7] w.Parent.length (fun i => [(1, .d (.v (.int .i64 (nxtN w.Parent i x)))), (7, .d (.v (.int .i64 i)))]) (fun _ => []) (fun i => ∀ j < i, isT w.Parent.length (nxtN w.Parent j x) = true ∧ nxtN w.Parent j x ≠ y) (by rfl) (by simp [nxtN]) ?_
  intro i hi hH
  have hs := nxtN_succ w.Parent i x
  have hno : y ∉ firstN w.Parent i x := by
    intro hm
    obtain ⟨j, hj, he⟩ := List.mem_map.1 hm
    exact (hH j (List.mem_range.1 hj)).2 he
  rcases Nat.lt_or_eq_of_le hi with hlt | rfl
  · have a4 : inR .i64 ((i : Int) + 1) := by rw [inR_i64]; omega
    cases hT : isT w.Parent.length (nxtN w.Parent i x) with
    | false =>
      have hst := chainM_stop (fun j hj => (hH j hj).1) (.inl hT) hi
      simp [-cB, hlt]
      refine AOps.pureG rfl (fun h => refIsW_ok w _) rfl (by first | rfl | (simp; rfl)) (by simp) (by simp) rfl ?_
      simp [-cB, hT, hst, hno]
    | true =>
      have hg := atI_elem hT
      have hg2 := atI_getD hT
      have hb := isT_iff.1 hT
      have hH2 : ∀ j < i + 1, isT w.Parent.length (nxtN w.Parent j x) = true := fun j hj => by
        rcases Nat.lt_or_ge j i with h | h
        · exact (hH j h).1
        · rw [show j = i by omega]; exact hT
      have hin := chainM_in hH2 hlt
      simp [-cB, hlt]
      refine AOps.pureG rfl (fun h => refIsW_ok w _) rfl (by first | rfl | (simp; rfl)) (by simp) (by simp) rfl ?_
      by_cases hxy : nxtN w.Parent i x = y
      · rw [hxy] at hin hT
        simp [-cB, hT, hxy, hin]
      · simp [-cB, hT, hs, hg, hg2, hxy, a4]
        refine ⟨by omega, by omega, fun j hj => ?_⟩
        rcases Nat.lt_or_ge j i with h | h
        · exact hH j h
        · rw [show j = i by omega]; exact ⟨hT, hxy⟩
  · have hst := chainM_stop (fun j hj => (hH j hj).1) (.inr rfl) hi
    simp [-cB]
    refine AOps.pureG rfl (fun h => refIsW_ok w _) rfl (by first | rfl | (simp; rfl)) (by simp) (by simp) rfl ?_
    simp [-cB, hst, hno]
theorem reftop_ok (w : GWorld) (hw : w.wf) (x : Int) : Pure Tryz.prog 81 [.agg (w.enc.map .d), .d (.v (.int .i64 x))] (.d (.v (.int .i64 (topM w.tree x)))) := by
  have hl := GWorld.wl_Parent hw
  have e1 : w.tree.Par = w.Parent := rfl
  unfold topM upsM
  rw [e1]
  refine Pure.run Tryz.func81 rfl (by simp [Tryz.f81]) ?_; simp [-cB, Tryz.f81]
  try intro (_ : Nat → Nat)
  refine AWP.loopS [1, 2, 5, 6] w.Parent.length (fun i => [(1, .d (.v (.int .i64 (nxtN w.Parent i x)))), (5, .d (.v (.int .i64 ((firstN w.Parent i x).getLastD 0)))), (6, .d (.v (.int .i64 i)))]) (fun _ => []) (fun i => ∀ j < i, isT w.Parent.length (nxtN w.Parent j x) = true) (by rfl) (by simp [nxtN, firstN]) ?_
  intro i hi hH
  have hs := nxtN_succ w.Parent i x
  have hf := firstN_succ w.Parent i x
  rcases Nat.lt_or_eq_of_le hi with hlt | rfl
  · have a4 : inR .i64 ((i : Int) + 1) := by rw [inR_i64]; omega
    cases hT : isT w.Parent.length (nxtN w.Parent i x) with
    | false =>
      have hst := chainM_stop hH (.inl hT) hi
      simp [-cB, hlt]
      refine AOps.pureG rfl (fun h => refIsW_ok w _) rfl (by first | rfl | (simp; rfl)) (by simp) (by simp) rfl ?_
      simp [-cB, hT, hst]
    | true =>
      have hg := atI_elem hT
      have hg2 := atI_getD hT
      have hb := isT_iff.1 hT
      have hH2 : ∀ j < i + 1, isT w.Parent.length (nxtN w.Parent j x) = true := fun j hj => by
        rcases Nat.lt_or_ge j i with h | h
        · exact hH j h
        · rw [show j = i by omega]; exact hT
      simp [-cB, hlt]
      refine AOps.pureG rfl (fun h => refIsW_ok w _) rfl (by first | rfl | (simp; rfl)) (by simp) (by simp) rfl ?_
      simp [-cB, hT, hs, hf, hg, hg2, a4]
      exact ⟨by omega, by omega, hH2⟩
  · have hst := chainM_stop hH (.inr rfl) hi
    simp [-cB]
    refine AOps.pureG rfl (fun h => refIsW_ok w _) rfl (by first | rfl | (simp; rfl)) (by simp) (by simp) rfl ?_
    simp [-cB, hst]
theorem refCount_ok (l : List Int) (hl : l.length ≤ 1000000000000000) (x : Int) : Pure Tryz.prog 78 [.d (.sl (encI l)), .d (.v (.int .i64 x))] (.d (.v (.int .i64 (l.count x)))) := by
  refine Pure.run Tryz.func78 rfl (by simp [Tryz.f78]) ?_; simp [-cB, Tryz.f78]
  refine AWP.loopL [0, 1, 5, 6] l (fun pre => [(5, .d (.v (.int .i64 (pre.count x)))), (6, .d (.v (.int .i64 pre.length)))]) (fun _ => []) (fun _ => True) (by rfl) (by omega) (by simp) ?_ ?_
  · rintro pre y post hsp - hlt hge a4
    have hc : inR .i64 ((pre.count x : Int) + 1) := by
      have := List.count_le_length (a := x) (l := pre)
      rw [inR_i64]; omega
    clear hsp
    by_cases hy : y = x
    · subst hy
      simp [-cB, hlt, hge, a4, hc, List.count_append]
    · simp [-cB, hlt, hge, a4, hy, List.count_append, List.count_cons]
  · intro _
    simp
end Go.Ab

namespace Go.Ab
open Go.Proofs
end Go.Ab

namespace Go.Ab
open Go.Proofs
theorem isP_ok (w : GWorld) (x : Int) : Pure Tryz.prog 12 [.agg (w.enc.map .d), .d (.v (.int .i64 x))] (.d (.v (.bool (isT w.Parent.length x)))) := by
  refine Pure.run Tryz.func12 rfl (by simp [Tryz.f12]) ?_; simp [-cB, Tryz.f12]
  simp [isT]
def upsL (w : GWorld) (x : Int) : Heap := [(5201, .box 0 31 (w.enc.map .d)), (5202, .box 0 3 [.d (.v (.int .i64 x))])]
theorem ups_ok (w : GWorld) (x : Int) : ACalls Tryz.prog 276 [.agg (w.enc.map .d), .d (.v (.int .i64 x))] [] (fun r L => r = .ret (.clo (.func 307) [] [.bp 5201 0, .bp 5202 0]) ∧ L = upsL w x) := by
  refine ACalls.wk (R := fun r L => r = .ret (.clo (.func 307) [] [.bp 2 0, .bp 3 0]) ∧ ∃ b2 b3, L = [(3, .box b3 3 [.d (.v (.int .i64 x))]), (2, .box b2 31 (w.enc.map .d))]) ?_ ?_
  · refine ACalls.run Tryz.func276 rfl (by simp [Tryz.f276]) ?_; simp [Tryz.f276]
  · rintro r L ⟨rfl, b2, b3, rfl⟩
    refine ⟨_, _, _, rfl, ((Wk.rlx [2, 3]).trans ((Wk.ren 2 5201 (by simp [keys])).trans ((Wk.ren 3 5202 (by simp [keys])).trans (Wk.pick [0] [5201, 5202] (by simp) (by decide) ?_)))), ?_⟩
    · simp
    · simp [upsL, St.pick]
theorem upsI_ok (w : GWorld) (hw : w.wf) (x : Int) : Iter Tryz.prog 307 [.bp 5201 0, .bp 5202 0] (upsL w x) ((upsM w.tree x).map fun i => [.d (.v (.int .i64 i))]) := by
  intro l A B hy
  have hl := GWorld.wl_Parent hw
  have e1 : w.tree.Par = w.Parent := rfl
  unfold upsM at hy ⊢
  rw [e1] at hy ⊢
  unfold upsL
  generalize hch : chainM w.Parent w.Parent.length w.Parent.length x = ch at *
  refine ACalls.runP [5003] (by simp) Tryz.func307 rfl (by simp [Tryz.f307]) ?_; simp [Tryz.f307]
  refine AWP.loopS [0, 1, 2, 4] w.Parent.length (fun i => [(4, .d (.v (.int .i64 ((w.Parent.length : Int) - i))))]) (fun i => [(5003, .env (A i)), (5202, .box 0 3 [.d (.v (.int .i64 (nxtN w.Parent i x)))])]) (fun i => ∀ j < i, isT w.Parent.length (nxtN w.Parent j x) = true) (by rfl) (by simp [nxtN]) ?_
  intro i hi hH
  have hs := nxtN_succ w.Parent i x
  have hfl := firstN_len w.Parent i x
  rcases Nat.lt_or_eq_of_le hi with hlt | rfl
  · have a4 : inR .i64 ((w.Parent.length : Int) - i - 1) := by rw [inR_i64]; omega
    cases hT : isT w.Parent.length (nxtN w.Parent i x) with
    | false =>
      have hst := chainM_stop hH (.inl hT) hi
      rw [hch] at hst
      simp [-cB]
      refine AOps.pureC rfl (isP_ok w _) rfl rfl (by simp) rfl ?_
      simp [-cB, hT]
      refine AOps.guarded (b := false) (x := .d (.v (.bool false))) rfl (by simp) (fun h => by cases h) ?_
      refine runC_sound _ _ [] (by rfl) ?_
      simp [-cB, hst, hfl]
    | true =>
      have hg := atI_elem hT
      have hg2 := atI_getD hT
      have hb := isT_iff.1 hT
      have hH2 : ∀ j < i + 1, isT w.Parent.length (nxtN w.Parent j x) = true := fun j hj => by
        rcases Nat.lt_or_ge j i with h | h
        · exact hH j h
        · rw [show j = i by omega]; exact hT
      have hci : ch[i]? = some (nxtN w.Parent i x) := by
        have := chainM_go w.Parent w.Parent.length (i + 1) (w.Parent.length - (i + 1)) x hH2
        rw [show i + 1 + (w.Parent.length - (i + 1)) = w.Parent.length by omega, hch] at this
        rw [this, List.getElem?_append_left (by simp)]
        simp
      have hyl : AYield Tryz.prog l [.d (.v (.int .i64 (nxtN w.Parent i x)))] [(5003, .env (A i))] (YR (A (i + 1)) B) := hy i _ (by rw [List.getElem?_map, hci]; rfl)
      simp [-cB]
      refine AOps.pureC rfl (isP_ok w _) rfl rfl (by simp) rfl ?_
      simp [-cB, hT, hlt]
      refine AOps.yieldG ((fun _ : true = true => hyl)) rfl (by simp) (by simp) (by simp [yieldee]) (by simp) (by simp) rfl (by simp [keys]) rfl (by simp) (by simp) ?_ ?_ ?_
      · intro _ bs2
        simp [-cB, List.filter, hs, hg, hg2, a4]
        exact ⟨by omega, hlt, by omega, hH2⟩
      · intro _ bs2
        simp [-cB, List.filter]
      · intro hr; cases hr
  · have hst := chainM_stop hH (.inr rfl) hi
    rw [hch] at hst
    simp [-cB]
    refine AOps.pureC rfl (isP_ok w _) rfl rfl (by simp) rfl ?_
    simp [-cB]
    refine AOps.guarded (b := false) (x := .d (.v (.bool false))) rfl (by simp) (fun h => by cases h) ?_
    refine runC_sound _ _ [] (by rfl) ?_
    simp [-cB, hst, hfl]
theorem top_ok (w : GWorld) (hw : w.wf) (x : Int) : Pure Tryz.prog 221 [.agg (w.enc.map .d), .d (.v (.int .i64 x))] (.d (.v (.int .i64 (topM w.tree x)))) := by
  unfold topM
  have hit := upsI_ok w hw x
  have hu := ups_ok w x
  unfold upsL at hit hu
  generalize upsM w.tree x = us at *
  refine Pure.run Tryz.func221 rfl (by simp [Tryz.f221]) ?_; simp [-cB, Tryz.f221]
  intro bs bs1
  refine AOps.effD [] rfl (hu) (by simp) rfl (by simp) rfl (by kernel_rfl) (by first | rfl | simp) (by simp) (by simp) (by simp) (by simp) ?_
  simp [-cB]
  refine AWP.rangeLc [5201, 5202] [5] us (fun i => [.d (.v (.int .i64 i))]) (fun pre => [(5, .box (bs1 0 + 1) 3 [.d (.v (.int .i64 (pre.getLastD 0)))])]) (fun _ => True) (by simpa [List.filter] using hit) rfl (by simp) (by simp [List.filter]) (by simp [hasRF]) (by simp) (by rfl) (by rfl) (by simp [List.filter]) (by simp [List.filter]) ?_ ?_
  · rintro pre y post hsp -
    simp [-cB, List.filter]
  · intro _
    simp [-cB, List.filter]
end Go.Ab

namespace Go.Ab
open Go.Proofs
def kidL (w : GWorld) (x : Int) : Heap := [(5201, .box 0 31 (w.enc.map .d)), (5202, .box 0 3 [.d (.v (.int .i64 x))])]
theorem children_ok (w : GWorld) (x : Int) : ACalls Tryz.prog 41 [.agg (w.enc.map .d), .d (.v (.int .i64 x))] [] (fun r L => r = .ret (.clo (.func 91) [] [.bp 5201 0, .bp 5202 0]) ∧ L = kidL w x) := by
  refine ACalls.wk (R := fun r L => r = .ret (.clo (.func 91) [] [.bp 2 0, .bp 3 0]) ∧ ∃ b2 b3, L = [(3, .box b3 3 [.d (.v (.int .i64 x))]), (2, .box b2 31 (w.enc.map .d))]) ?_ ?_
  · refine ACalls.run Tryz.func41 rfl (by simp [Tryz.f41]) ?_; simp [Tryz.f41]
  · rintro r L ⟨rfl, b2, b3, rfl⟩
    refine ⟨_, _, _, rfl, ((Wk.rlx [2, 3]).trans ((Wk.ren 2 5201 (by simp [keys])).trans ((Wk.ren 3 5202 (by simp [keys])).trans (Wk.pick [0] [5201, 5202] (by simp) (by decide) ?_)))), ?_⟩
    · simp
    · simp [kidL, St.pick]
theorem childrenI_ok (w : GWorld) (hw : w.wf) (hC : w.Child.length = w.Parent.length) (hN : w.Next.length = w.Parent.length) (x : Int) : Iter Tryz.prog 91 [.bp 5201 0, .bp 5202 0] (kidL w x) ((kidsM w.tree x).map fun i => [.d (.v (.int .i64 i))]) := by
  intro l A B hy
  have hl := GWorld.wl_Parent hw
  have e1 : w.tree.Par = w.Parent := rfl
  have e2 : w.tree.Chi = w.Child := rfl
  have e3 : w.tree.Nxt = w.Next := rfl
  unfold kidsM at hy ⊢
  rw [e1, e2, e3] at hy ⊢
  unfold kidL
  cases hx : isT w.Parent.length x with
  | false =>
    simp only [hx] at hy ⊢
    refine ACalls.runP [5003] (by simp) Tryz.func91 rfl (by simp [Tryz.f91]) ?_; simp [Tryz.f91]
    refine AOps.pureC rfl (isP_ok w _) rfl rfl (by simp) rfl ?_
    simp [hx]
  | true =>
    simp only [hx, if_true] at hy ⊢
    generalize hc : atI w.Child x = c at *
    generalize hch : chainM w.Next w.Parent.length w.Parent.length c = ch at *
    refine ACalls.runP [5003] (by simp) Tryz.func91 rfl (by simp [Tryz.f91]) ?_; simp [Tryz.f91]
    refine AOps.pureC rfl (isP_ok w _) rfl rfl (by simp) rfl ?_
    simp [-cB, hx]
    have hb0 := isT_iff.1 hx
    have hg0 : w.Child[x.toNat]?.getD 0 = c := by rw [← hc]; exact atI_getD (by rw [hC]; exact hx)
    refine ⟨⟨by omega, by omega⟩, ?_⟩
    rw [hg0]
    refine AWP.loopS [0, 1, 4, 5] w.Parent.length (fun i => [(4, .d (.v (.int .i64 ((w.Parent.length : Int) - i)))), (5, .d (.v (.int .i64 (nxtN w.Next i c))))]) (fun i => [(5003, .env (A i))]) (fun i => ∀ j < i, isT w.Parent.length (nxtN w.Next j c) = true) (by rfl) (by simp [nxtN]) ?_
    intro i hi hH
    have hs := nxtN_succ w.Next i c
    have hfl := firstN_len w.Next i c
    rcases Nat.lt_or_eq_of_le hi with hlt | rfl
    · have a4 : inR .i64 ((w.Parent.length : Int) - i - 1) := by rw [inR_i64]; omega
      cases hT : isT w.Parent.length (nxtN w.Next i c) with
      | false =>
        have hst := chainM_stop hH (.inl hT) hi
        rw [hch] at hst
        simp [-cB]
        refine AOps.pureC rfl (isP_ok w _) rfl rfl (by simp) rfl ?_
        simp [-cB, hT]
        refine AOps.guarded (b := false) (x := .d (.v (.bool false))) rfl (by simp) (fun h => by cases h) ?_
        refine runC_sound _ _ [] (by rfl) ?_
        simp [-cB, hst, hfl]
      | true =>
        have hT2 : isT w.Next.length (nxtN w.Next i c) = true := by rw [hN]; exact hT
        have hg := atI_elem hT2
        have hg2 := atI_getD hT2
        have hb := isT_iff.1 hT
        have hH2 : ∀ j < i + 1, isT w.Parent.length (nxtN w.Next j c) = true := fun j hj => by
          rcases Nat.lt_or_ge j i with h | h
          · exact hH j h
          · rw [show j = i by omega]; exact hT
        have hci : ch[i]? = some (nxtN w.Next i c) := by
          have := chainM_go w.Next w.Parent.length (i + 1) (w.Parent.length - (i + 1)) c hH2
          rw [show i + 1 + (w.Parent.length - (i + 1)) = w.Parent.length by omega, hch] at this
          rw [this, List.getElem?_append_left (by simp)]
          simp
        have hyl : AYield Tryz.prog l [.d (.v (.int .i64 (nxtN w.Next i c)))] [(5003, .env (A i))] (YR (A (i + 1)) B) := hy i _ (by rw [List.getElem?_map, hci]; rfl)
        simp [-cB]
        refine AOps.pureC rfl (isP_ok w _) rfl rfl (by simp) rfl ?_
        simp [-cB, hT, hlt]
        refine AOps.yieldG ((fun _ : true = true => hyl)) rfl (by simp) (by simp) (by simp [yieldee]) (by simp) (by simp) rfl (by simp [keys]) rfl (by simp) (by simp) ?_ ?_ ?_
        · intro _ bs2
          simp [-cB, List.filter, hs, hg, hg2, a4]
          exact ⟨by omega, hlt, by omega, hH2⟩
        · intro _ bs2
          simp [-cB, List.filter]
        · intro hr; cases hr
    · have hst := chainM_stop hH (.inr rfl) hi
      rw [hch] at hst
      simp [-cB]
      refine AOps.pureC rfl (isP_ok w _) rfl rfl (by simp) rfl ?_
      simp [-cB]
      refine AOps.guarded (b := false) (x := .d (.v (.bool false))) rfl (by simp) (fun h => by cases h) ?_
      refine runC_sound _ _ [] (by rfl) ?_
      simp [-cB, hst, hfl]
theorem appendSeq_ok (f : FuncId) (he : enters Tryz.prog f = true) (xs : List Int) (hxl : xs.length * 8 ≤ 140737488355328) (w : GWorld) (x : Int) (hit : Iter Tryz.prog f [.bp 5201 0, .bp 5202 0] (kidL w x) (xs.map fun i => [.d (.v (.int .i64 i))])) :
    ACalls Tryz.prog 90 [.d (.v (.slice none 0 0)), .clo (.func f) [] [.bp 5201 0, .bp 5202 0]] (kidL w x) (fun r L => r = .ret (.rv 40) ∧ L = [(40, .row 3 1 (dd (encI xs)))]) := by
  unfold kidL at hit ⊢
  refine ACalls.wk (R := fun r L => r = .ret (.rv 40) ∧ ∃ b2, L = [(40, .row 3 1 (dd (encI xs))), (2, .box b2 23 [.rv 40])]) ?_ ?_
  · refine ACalls.run Tryz.func90 rfl (by simp [Tryz.f90]) ?_; simp [Tryz.f90]
    intro bs
    refine AWP.weaken (Wk.ownBox (e := 3) (k := 1) 2 0 40 rfl rfl (by simp [keys])) ?_
    simp [-cB]
    refine AWP.rangeLc [5201, 5202] [2] xs (fun i => [.d (.v (.int .i64 i))]) (fun pre => [(40, .row 3 1 (dd (encI pre)))]) (fun pre => True) (by simpa [List.filter] using hit) rfl he (by simp [List.filter]) (by simp [hasRF]) (by simp) (by rfl) (by rfl) (by simp [List.filter, encI]) (by simp [List.filter]) ?_ ?_
    · rintro pre z post hsp hH
      have hxl2 : (pre.length + 1) * 8 ≤ 140737488355328 := by
        rw [hsp] at hxl; simp at hxl; omega
      simp [-cB, List.filter, hxl2, encI, dd]
    · intro hH
      simp [-cB, List.filter]
  · rintro r L ⟨rfl, b2, rfl⟩
    refine ⟨_, _, _, rfl, ((Wk.rlx []).trans (Wk.pick [0] [40] (by simp) (by decide) ?_)), ?_⟩
    · simp [dd, encI]
    · simp [St.pick]
theorem collect_ok (f : FuncId) (he : enters Tryz.prog f = true) (xs : List Int) (hxl : xs.length * 8 ≤ 140737488355328) (w : GWorld) (x : Int) (hit : Iter Tryz.prog f [.bp 5201 0, .bp 5202 0] (kidL w x) (xs.map fun i => [.d (.v (.int .i64 i))])) :
    ACalls Tryz.prog 40 [.clo (.func f) [] [.bp 5201 0, .bp 5202 0]] (kidL w x) (fun r L => r = .ret (.rv 40) ∧ L = [(40, .row 3 1 (dd (encI xs)))]) := by
  have ha := appendSeq_ok f he xs hxl w x hit
  clear hit
  unfold kidL at ha ⊢
  refine ACalls.run Tryz.func40 rfl (by simp [Tryz.f40]) ?_; simp [Tryz.f40]
  refine AOps.effX [5201, 5202] rfl (ha) (by simp) rfl (by simp) rfl (by kernel_rfl) (by first | rfl | simp) (by simp) (by simp) (by simp) ?_
  simp [-cB]
theorem Children_ok (w : GWorld) (hw : w.wf) (hC : w.Child.length = w.Parent.length) (hN : w.Next.length = w.Parent.length) (x : Int) : Pure Tryz.prog 13 [.agg (w.enc.map .d), .d (.v (.int .i64 x))] (.d (.sl (encI (kidsM w.tree x)))) := by
  have hl := GWorld.wl_Parent hw
  have hk := children_ok w x
  have hxl : (kidsM w.tree x).length * 8 ≤ 140737488355328 := by
    unfold kidsM
    have h1 : (chainM w.tree.Nxt w.tree.Par.length w.tree.Par.length (atI w.tree.Chi x)).length ≤ w.Parent.length := chainM_len _ _ _ _
    split
    · omega
    · simp
  have hc := collect_ok 91 (by kernel_rfl) _ hxl w x (childrenI_ok w hw hC hN x)
  unfold kidL at hk hc
  generalize kidsM w.tree x = ks at *
  refine Pure.run Tryz.func13 rfl (by simp [Tryz.f13]) ?_; simp [-cB, Tryz.f13]
  intro bs
  refine AOps.effD [] rfl (hk) (by simp) rfl (by simp) rfl (by kernel_rfl) (by first | rfl | simp) (by simp) (by simp) (by simp) (by simp) ?_
  simp [-cB]
  refine AOps.effX [5201, 5202] rfl (hc) (by simp) rfl (by simp) rfl (by kernel_rfl) (by first | rfl | simp) (by simp) (by simp) (by simp) ?_
  simp [-cB]
end Go.Ab

namespace Go.Ab
open Go.Proofs
end Go.Ab

namespace Go.Ab
theorem atI_set {l : List Int} {x : Int} (hx : 0 ≤ x ∧ x < l.length) (v y : Int) : atI (l.set x.toNat v) y = if y = x then v else atI l y := by
  unfold atI
  by_cases hy : y < 0
  · rw [if_pos hy, if_pos hy, if_neg (by omega)]
  · rw [if_neg hy, if_neg hy, List.getElem?_set]
    by_cases he : y = x
    · subst he
      rw [if_pos rfl, if_pos rfl, if_pos (by omega)]
      rfl
    · rw [if_neg (by omega), if_neg he]
def cutM (nx : List Int) (x : Int) (l : List Int) : List Int := l.foldl (fun a c => if atI nx c = x then a.set c.toNat (atI nx x) else a) nx
theorem cutM_snoc (nx : List Int) (x : Int) (l : List Int) (c : Int) : cutM nx x (l ++ [c]) = if atI nx c = x then (cutM nx x l).set c.toNat (atI nx x) else cutM nx x l := by simp [cutM]
theorem cutM_len (nx : List Int) (x : Int) (l : List Int) : (cutM nx x l).length = nx.length := by
  unfold cutM
  suffices h : ∀ a : List Int, (l.foldl (fun a c => if atI nx c = x then a.set c.toNat (atI nx x) else a) a).length = a.length from h nx
  induction l with
  | nil => intro a; rfl
  | cons c l ih => intro a; rw [List.foldl_cons, ih]; split <;> simp
theorem cutM_at (nx : List Int) (x : Int) (l : List Int) (hl : ∀ y ∈ l, 0 ≤ y ∧ y < nx.length) (y : Int) : atI (cutM nx x l) y = if y ∈ l ∧ atI nx y = x then atI nx x else atI nx y := by
  suffices h : ∀ r : List Int, (∀ y ∈ r, 0 ≤ y ∧ y < nx.length) → atI (cutM nx x r.reverse) y = if y ∈ r ∧ atI nx y = x then atI nx x else atI nx y by
    have := h l.reverse (by simpa using hl)
    simpa using this
  intro r
  induction r with
  | nil => intro _; simp [cutM]
  | cons c r ih =>
    intro hr
    have ih' := ih (fun y hy => hr y (List.mem_cons_of_mem _ hy))
    rw [List.reverse_cons, cutM_snoc]
    by_cases hc : atI nx c = x
    · rw [if_pos hc, atI_set (by rw [cutM_len]; exact hr c List.mem_cons_self), ih']
      by_cases hy : y = c
      · subst hy; simp [hc]
      · simp [hy]
    · rw [if_neg hc, ih']
      by_cases hy : y = c
      · subst hy; simp [hc]
      · simp [hy]
theorem Ch.next {nx : List Int} {n : Nat} {c : Int} {l : List Int} (h : Ch nx n c l) : ∀ y ∈ l, atI nx y = 0 ∨ atI nx y ∈ l.tail := by
  induction h with
  | nil => simp
  | @cons c l h t ih =>
    intro y hy
    rcases List.mem_cons.1 hy with rfl | hy
    · generalize atI nx y = z at t
      cases t with
      | nil => left; rfl
      | cons h' t' => right; simp
    · rcases ih y hy with e | e
      · exact .inl e
      · exact .inr (List.mem_of_mem_tail e)
theorem Ch.cut {nx nx' : List Int} {n : Nat} {c x : Int} {l : List Int} (h : Ch nx n c l) (hx : 1 ≤ x) (hk : ∀ y ∈ l, y ≠ x → atI nx' y = if atI nx y = x then atI nx x else atI nx y) : Ch nx' n (if c = x then atI nx x else c) (l.erase x) := by
  induction h with
  | nil => rw [if_neg (by omega)]; exact .nil
  | @cons c l h t ih =>
    have hnd := (Ch.cons h t).nodup
    have hnx := (Ch.cons h t).next
    by_cases hc : c = x
    · subst hc
      rw [if_pos rfl, List.erase_cons_head]
      refine t.keep fun y hy => ?_
      have hne : y ≠ c := fun e => by subst e; exact (List.nodup_cons.1 hnd).1 hy
      rw [hk y (List.mem_cons_of_mem _ hy) hne, if_neg]
      intro e
      rcases hnx y (List.mem_cons_of_mem _ hy) with e2 | e2
      · omega
      · rw [e] at e2; exact (List.nodup_cons.1 hnd).1 e2
    · rw [if_neg hc, List.erase_cons_tail (by simpa using hc)]
      refine .cons h ?_
      rw [hk c List.mem_cons_self hc]
      exact ih (fun y hy => hk y (List.mem_cons_of_mem _ hy))
theorem Ch.stop {nx nx' : List Int} {n : Nat} {c x : Int} {l : List Int} (h : Ch nx n c l) (hk : ∀ y, atI nx' y = if y = x then 0 else atI nx y) : ∃ l', Ch nx' n c l' := by
  induction h with
  | nil => exact ⟨_, .nil⟩
  | @cons c l h t ih =>
    by_cases hc : c = x
    · exact ⟨[c], .cons h (by rw [hk, if_pos hc]; exact .nil)⟩
    · obtain ⟨l', h'⟩ := ih
      exact ⟨c :: l', .cons h (by rw [hk, if_neg hc]; exact h')⟩
def leaveT (t : Tree) (x : Int) : Tree where
  Par := t.Par.set x.toNat 0
  Chi := if atI t.Par x ≠ 0 ∧ atI t.Chi (atI t.Par x) = x then t.Chi.set (atI t.Par x).toNat (atI t.Nxt x) else t.Chi
  Nxt := (if atI t.Par x = 0 ∨ atI t.Chi (atI t.Par x) = x then t.Nxt else cutM t.Nxt x (kidsM t (atI t.Par x))).set x.toNat 0
theorem Nest.leave {t : Tree} {n : Nat} {ls : Int → List Int} (h : Nest t n ls) {x : Int} (hx : 1 ≤ x ∧ x < n) : Nest (leaveT t x) n (fun u => if u = atI t.Par x then (ls u).erase x else ls u) := by
  have hP : ∀ y, atI (leaveT t x).Par y = if y = x then 0 else atI t.Par y := fun y => atI_set (by rw [h.lp]; omega) 0 y
  have hup := h.up x hx.1 hx.2
  have hC : ∀ u, 1 ≤ u → atI (leaveT t x).Chi u = if u = atI t.Par x then (if atI t.Chi u = x then atI t.Nxt x else atI t.Chi u) else atI t.Chi u := by
    intro u hu
    unfold leaveT
    try dsimp only
    by_cases hc : atI t.Par x ≠ 0 ∧ atI t.Chi (atI t.Par x) = x
    · rw [if_pos hc, atI_set (by rw [h.lc]; rcases hup with h1 | h1 <;> omega)]
      by_cases he : u = atI t.Par x
      · rw [if_pos he, if_pos he, if_pos (by rw [he]; exact hc.2)]
      · rw [if_neg he, if_neg he]
    · rw [if_neg hc]
      by_cases he : u = atI t.Par x
      · rw [if_pos he, if_neg]
        intro e
        exact hc ⟨by omega, by rw [← he]; exact e⟩
      · rw [if_neg he]
  have hN : ∀ y, atI (leaveT t x).Nxt y = if y = x then 0 else if y ∈ ls (atI t.Par x) ∧ atI t.Par x ≠ 0 ∧ atI t.Nxt y = x then atI t.Nxt x else atI t.Nxt y := by
    intro y
    unfold leaveT
    try dsimp only
    rw [atI_set (by split <;> simp only [cutM_len, h.ln] <;> omega)]
    by_cases hy : y = x
    · rw [if_pos hy, if_pos hy]
    · rw [if_neg hy, if_neg hy]
      by_cases hc : atI t.Par x = 0 ∨ atI t.Chi (atI t.Par x) = x
      · rw [if_pos hc, if_neg]
        rintro ⟨h1, h2, h3⟩
        have hc := hc.resolve_left h2
        have hu := (hup.resolve_left (fun e => h2 e.1)).1
        have hch := h.ch _ hu.1 hu.2
        rw [hc] at hch
        rcases hch.next y h1 with e | e
        · omega
        · rw [h3] at e
          cases hl : ls (atI t.Par x) with
          | nil => rw [hl] at h1; cases h1
          | cons a r =>
            rw [hl] at hch e
            have hnd := hch.nodup
            cases hch with
            | cons _ _ => exact (List.nodup_cons.1 hnd).1 e
      · rw [if_neg hc]
        have h0 : atI t.Par x ≠ 0 := fun e => hc (.inl e)
        have hu := (hup.resolve_left (fun e => h0 e.1)).1
        rw [h.kids hu, cutM_at _ _ _ (fun z hz => by have := (h.ch _ hu.1 hu.2).mem z hz; rw [h.ln]; omega)]
        simp [h0]
  refine ⟨h.pos, by simp [leaveT, h.lp], by unfold leaveT; dsimp only; split <;> simp [h.lc], by unfold leaveT; dsimp only; split <;> simp [h.ln, cutM_len], ?_, ?_, ?_, ?_, ?_, ?_, ?_⟩
  · rw [hP, h.p0]; split <;> rfl
  · have hle : atI (leaveT t x).Chi 0 = atI t.Chi 0 := by
      unfold leaveT; dsimp only
      split
      · rename_i hc
        rw [atI_set (by rw [h.lc]; rcases hup with h1 | h1 <;> omega), if_neg (by omega)]
      · rfl
    rw [hle, h.c0]
  · rw [hN, if_neg (by omega), if_neg, h.n0]
    rintro ⟨h1, h2, h3⟩
    rw [h.n0] at h3; omega
  · intro u hu1 hu2
    try dsimp only
    rw [hC u hu1]
    have hch := h.ch u hu1 hu2
    by_cases he : u = atI t.Par x
    · rw [if_pos he, if_pos he]
      refine hch.cut hx.1 fun y hy hyx => ?_
      rw [hN, if_neg hyx]
      rw [he] at hy
      have h0 : atI t.Par x ≠ 0 := by omega
      simp [hy, h0]
    · rw [if_neg he, if_neg he]
      refine hch.keep fun y hy => ?_
      have hpy := h.par u hu1 hu2 y hy
      have hyx : y ≠ x := fun e => he (by rw [← e]; exact hpy.symm)
      rw [hN, if_neg hyx, if_neg]
      rintro ⟨h1, h2, -⟩
      have hu := (hup.resolve_left (fun e => h2 e.1)).1
      exact he (by rw [← hpy]; exact (h.par _ hu.1 hu.2 y h1))
  · intro u hu1 hu2 y hy
    try dsimp only at hy
    rw [hP]
    by_cases he : u = atI t.Par x
    · rw [if_pos he] at hy
      have hch := h.ch u hu1 hu2
      have := (List.Nodup.mem_erase_iff hch.nodup).1 hy
      rw [if_neg this.1]
      exact h.par u hu1 hu2 y this.2
    · rw [if_neg he] at hy
      have hpy := h.par u hu1 hu2 y hy
      rw [if_neg (fun e => he (by rw [← e]; exact hpy.symm))]
      exact hpy
  · intro y hy1 hy2
    try dsimp only
    by_cases hyx : y = x
    · left
      rw [hP, hN, if_pos hyx, if_pos hyx]
      exact ⟨rfl, rfl⟩
    · rw [hP, if_neg hyx]
      rcases h.up y hy1 hy2 with ⟨h1, h2⟩ | ⟨h1, h2⟩
      · left
        refine ⟨h1, ?_⟩
        rw [hN, if_neg hyx, if_neg, h2]
        rintro ⟨-, -, h3⟩
        rw [h2] at h3; omega
      · right
        refine ⟨h1, ?_⟩
        split
        · exact (List.mem_erase_of_ne hyx).2 h2
        · exact h2
  · intro y hy1 hy2
    obtain ⟨l, hl⟩ := h.ends y hy1 hy2
    exact hl.stop hP
def putT (t : Tree) (x to : Int) : Tree where
  Par := t.Par.set x.toNat to
  Chi := t.Chi.set to.toNat x
  Nxt := t.Nxt.set x.toNat (atI t.Chi to)
theorem Nest.put {t : Tree} {n : Nat} {ls : Int → List Int} (h : Nest t n ls) {x to : Int} (hx : 1 ≤ x ∧ x < n) (hto : 1 ≤ to ∧ to < n) (h0 : atI t.Par x = 0) {l : List Int} (hl : Ch t.Par n to l) (hxl : x ∉ l) :
    Nest (putT t x to) n (fun u => if u = to then x :: ls to else ls u) := by
  have hP : ∀ y, atI (putT t x to).Par y = if y = x then to else atI t.Par y := fun y => atI_set (by rw [h.lp]; omega) to y
  have hC : ∀ y, atI (putT t x to).Chi y = if y = to then x else atI t.Chi y := fun y => atI_set (by rw [h.lc]; omega) x y
  have hN : ∀ y, atI (putT t x to).Nxt y = if y = x then atI t.Chi to else atI t.Nxt y := fun y => atI_set (by rw [h.ln]; omega) _ y
  have hno : ∀ u : Int, 1 ≤ u → u < n → x ∉ ls u := fun u h1 h2 hm => by have := h.par u h1 h2 x hm; omega
  have hlt := hl.keep (nx' := (putT t x to).Par) (fun y hy => by rw [hP, if_neg (fun e => hxl (by rw [← e]; exact hy))])
  refine ⟨h.pos, by simp [putT, h.lp], by simp [putT, h.lc], by simp [putT, h.ln], ?_, ?_, ?_, ?_, ?_, ?_, ?_⟩
  · rw [hP, if_neg (by omega), h.p0]
  · rw [hC, if_neg (by omega), h.c0]
  · rw [hN, if_neg (by omega), h.n0]
  · intro u hu1 hu2
    try dsimp only
    rw [hC]
    have hk := (h.ch u hu1 hu2).keep (nx' := (putT t x to).Nxt) (fun y hy => by rw [hN, if_neg (fun e => hno u hu1 hu2 (by rw [← e]; exact hy))])
    by_cases he : u = to
    · subst he
      rw [if_pos rfl, if_pos rfl]
      refine .cons hx ?_
      rw [hN, if_pos rfl]
      exact hk
    · rw [if_neg he, if_neg he]
      exact hk
  · intro u hu1 hu2 y hy
    try dsimp only at hy
    rw [hP]
    by_cases he : u = to
    · subst he
      rw [if_pos rfl] at hy
      rcases List.mem_cons.1 hy with rfl | hy
      · rw [if_pos rfl]
      · rw [if_neg (fun e => hno u hu1 hu2 (by rw [← e]; exact hy))]
        exact h.par u hu1 hu2 y hy
    · rw [if_neg he] at hy
      rw [if_neg (fun e => hno u hu1 hu2 (by rw [← e]; exact hy))]
      exact h.par u hu1 hu2 y hy
  · intro y hy1 hy2
    try dsimp only
    rw [hP, hN]
    by_cases hyx : y = x
    · subst hyx
      right
      rw [if_pos rfl]
      exact ⟨hto, by rw [if_pos rfl]; exact List.mem_cons_self⟩
    · rw [if_neg hyx, if_neg hyx]
      rcases h.up y hy1 hy2 with h1 | ⟨h1, h2⟩
      · exact .inl h1
      · refine .inr ⟨h1, ?_⟩
        split
        · rename_i e; rw [← e]; exact List.mem_cons_of_mem _ h2
        · exact h2
  · intro y hy1 hy2
    obtain ⟨l2, hl2⟩ := h.ends y hy1 hy2
    clear hy1 hy2
    induction hl2 with
    | nil => exact ⟨_, .nil⟩
    | @cons c l3 hc _ ih =>
      by_cases hcx : c = x
      · exact ⟨c :: l, .cons hc (by rw [hP, if_pos hcx]; exact hlt)⟩
      · obtain ⟨l4, h4⟩ := ih
        exact ⟨c :: l4, .cons hc (by rw [hP, if_neg hcx]; exact h4)⟩
theorem Nest.ups {t : Tree} {n : Nat} {ls : Int → List Int} (h : Nest t n ls) {x : Int} (hx : 1 ≤ x ∧ x < n) : Ch t.Par n x (upsM t x) := by
  obtain ⟨l, hl⟩ := h.ends x hx.1 hx.2
  rw [upsM, h.lp, hl.full]
  exact hl
theorem Nest.move {t : Tree} {n : Nat} {ls : Int → List Int} (h : Nest t n ls) {x to : Int} (hx : 1 ≤ x ∧ x < n) (hto : 1 ≤ to ∧ to < n) (hno : x ∉ upsM t to) :
    Nest (putT (leaveT t x) x to) n (fun u => if u = to then x :: (if to = atI t.Par x then (ls to).erase x else ls to) else if u = atI t.Par x then (ls u).erase x else ls u) := by
  have hP : ∀ y, atI (leaveT t x).Par y = if y = x then 0 else atI t.Par y := fun y => atI_set (by rw [h.lp]; omega) 0 y
  refine (h.leave hx).put hx hto (by rw [hP, if_pos rfl]) ((h.ups hto).keep fun y hy => ?_) hno
  rw [hP, if_neg (fun e => hno (by rw [← e]; exact hy))]
end Go.Ab

namespace Go.Ab
open Go.Proofs
theorem kidsM_mem {t : Tree} {x y : Int} (h : y ∈ kidsM t x) : 1 ≤ y ∧ y < t.Par.length := by
  unfold kidsM at h
  split at h
  · exact chainM_mem h
  · cases h
structure LeaveOk (w : GWorld) (x : Int) : Prop where
  wf : w.wf
  hC : w.Child.length = w.Parent.length
  hN : w.Next.length = w.Parent.length
  hx : isT w.Parent.length x = true
  up : atI w.Parent x = 0 ∨ isT w.Parent.length (atI w.Parent x) = true
end Go.Ab

namespace Go.Ab
open Go.Proofs
structure Wld (w : GWorld) : Prop where
  wf : w.wf
  hC : w.Child.length = w.Parent.length
  hN : w.Next.length = w.Parent.length
  up : ∀ x, isT w.Parent.length x = true → atI w.Parent x = 0 ∨ isT w.Parent.length (atI w.Parent x) = true
end Go.Ab

namespace Go.Ab
end Go.Ab

namespace Go.Ab
open Go.Proofs
end Go.Ab

namespace Go.Ab
open Go.Proofs
end Go.Ab

namespace Go.Ab
open Go.Proofs
def tru (b : Bool) : Int := if b then 1 else 0
def treeR (w : GWorld) (what x : Int) : Int × Int :=
  if what = 1 ∨ what = 2 ∨ what = 3 then
    if isT w.Parent.length (wrapM x) then ((if what = 1 then atI w.Parent (wrapM x) else if what = 2 then atI w.Child (wrapM x) else atI w.Next (wrapM x)), 0) else (0, 11)
  else (0, 16)
def selfR (w : GWorld) (e : GEnv) (what : Int) : Int × Int :=
  if what = 1 then (topM w.tree 1, 0) else if what = 2 then (1, 0) else if what = 3 then (wrapM e.Noun, 0) else if what = 4 then (wrapM e.Second, 0) else if what = 5 then (wrapM e.Number, 0) else if what = 6 then (wrapM w.Score, 0) else (0, 16)
theorem not_ok (n : Int) : Pure Tryz.prog 159 [.d (.v (.int .i64 n))] (.d (.v (.int .i64 (tru (decide (wrapM n = 0)))))) := by
  unfold tru
  refine Pure.run Tryz.func159 rfl (by simp [Tryz.f159]) ?_; simp [-cB, Tryz.f159]
  try intro (_ : Nat → Nat)
  repeat' (first
    | (with_reducible refine And.intro ?_ ?_)
    | (refine condC_split (fun h => ?_) (fun h => ?_) <;> (try simp at h) <;> (try simp [-cB, *]))
    | (refine AOps.pureC rfl (wrap_ok _) rfl rfl (by simp) rfl ?_ <;> (try simp [-cB, *]))
    | (refine AOps.lendC rfl (wrap_ok _) rfl (by simp) rfl rfl (by simp) rfl ?_ <;> (try simp [-cB, *]))
    | (refine AOps.pureG rfl (fun h => wrap_ok _) rfl (by first | rfl | (simp; rfl)) (by simp) (by simp) rfl ?_ <;> (try simp [-cB, *]))
    | (with_reducible intro _))
theorem tree_ok (w : GWorld) (hC : w.Child.length = w.Parent.length) (hN : w.Next.length = w.Parent.length) (what x : Int) : Pure Tryz.prog 163 [.agg (w.enc.map .d), .d (.v (.int .i64 what)), .d (.v (.int .i64 x))] (pr2 (treeR w what x)) := by
  unfold treeR pr2
  by_cases hw : what = 1 ∨ what = 2 ∨ what = 3
  · rw [if_pos hw]
    generalize hy : wrapM x = y
    cases hT : isT w.Parent.length y with
    | false =>
      rcases hw with rfl | rfl | rfl
      · refine Pure.run Tryz.func163 rfl (by simp [Tryz.f163]) ?_; simp [-cB, Tryz.f163]
        try intro (_ : Nat → Nat)
        repeat' (first
          | (with_reducible refine And.intro ?_ ?_)
          | (refine condC_split (fun h => ?_) (fun h => ?_) <;> (try simp at h) <;> (try simp [-cB, *]))
          | (refine AOps.pureC rfl (wrap_ok _) rfl rfl (by simp) rfl ?_ <;> (try simp [-cB, *]))
          | (refine AOps.pureC rfl (isP_ok w _) rfl rfl (by simp) rfl ?_ <;> (try simp [-cB, *]))
          | (refine AOps.lendC rfl (wrap_ok _) rfl (by simp) rfl rfl (by simp) rfl ?_ <;> (try simp [-cB, *]))
          | (refine AOps.lendC rfl (isP_ok w _) rfl (by simp) rfl rfl (by simp) rfl ?_ <;> (try simp [-cB, *]))
          | (refine AOps.pureG rfl (fun h => wrap_ok _) rfl (by first | rfl | (simp; rfl)) (by simp) (by simp) rfl ?_ <;> (try simp [-cB, *]))
          | (refine AOps.pureG rfl (fun h => isP_ok w _) rfl (by first | rfl | (simp; rfl)) (by simp) (by simp) rfl ?_ <;> (try simp [-cB, *]))
          | (with_reducible intro _))
      · refine Pure.run Tryz.func163 rfl (by simp [Tryz.f163]) ?_; simp [-cB, Tryz.f163]
        try intro (_ : Nat → Nat)
        repeat' (first
          | (with_reducible refine And.intro ?_ ?_)
          | (refine condC_split (fun h => ?_) (fun h => ?_) <;> (try simp at h) <;> (try simp [-cB, *]))
          | (refine AOps.pureC rfl (wrap_ok _) rfl rfl (by simp) rfl ?_ <;> (try simp [-cB, *]))
          | (refine AOps.pureC rfl (isP_ok w _) rfl rfl (by simp) rfl ?_ <;> (try simp [-cB, *]))
          | (refine AOps.lendC rfl (wrap_ok _) rfl (by simp) rfl rfl (by simp) rfl ?_ <;> (try simp [-cB, *]))
          | (refine AOps.lendC rfl (isP_ok w _) rfl (by simp) rfl rfl (by simp) rfl ?_ <;> (try simp [-cB, *]))
          | (refine AOps.pureG rfl (fun h => wrap_ok _) rfl (by first | rfl | (simp; rfl)) (by simp) (by simp) rfl ?_ <;> (try simp [-cB, *]))
          | (refine AOps.pureG rfl (fun h => isP_ok w _) rfl (by first | rfl | (simp; rfl)) (by simp) (by simp) rfl ?_ <;> (try simp [-cB, *]))
          | (with_reducible intro _))
      · refine Pure.run Tryz.func163 rfl (by simp [Tryz.f163]) ?_; simp [-cB, Tryz.f163]
        try intro (_ : Nat → Nat)
        repeat' (first
          | (with_reducible refine And.intro ?_ ?_)
          | (refine condC_split (fun h => ?_) (fun h => ?_) <;> (try simp at h) <;> (try simp [-cB, *]))
          | (refine AOps.pureC rfl (wrap_ok _) rfl rfl (by simp) rfl ?_ <;> (try simp [-cB, *]))
          | (refine AOps.pureC rfl (isP_ok w _) rfl rfl (by simp) rfl ?_ <;> (try simp [-cB, *]))
          | (refine AOps.lendC rfl (wrap_ok _) rfl (by simp) rfl rfl (by simp) rfl ?_ <;> (try simp [-cB, *]))
          | (refine AOps.lendC rfl (isP_ok w _) rfl (by simp) rfl rfl (by simp) rfl ?_ <;> (try simp [-cB, *]))
          | (refine AOps.pureG rfl (fun h => wrap_ok _) rfl (by first | rfl | (simp; rfl)) (by simp) (by simp) rfl ?_ <;> (try simp [-cB, *]))
          | (refine AOps.pureG rfl (fun h => isP_ok w _) rfl (by first | rfl | (simp; rfl)) (by simp) (by simp) rfl ?_ <;> (try simp [-cB, *]))
          | (with_reducible intro _))
    | true =>
      have hb := isT_iff.1 hT
      have g1 := atI_getD hT
      have g2 := atI_getD (l := w.Child) (by rw [hC]; exact hT)
      have g3 := atI_getD (l := w.Next) (by rw [hN]; exact hT)
      rcases hw with rfl | rfl | rfl
      · refine Pure.run Tryz.func163 rfl (by simp [Tryz.f163]) ?_; simp [-cB, Tryz.f163]
        try intro (_ : Nat → Nat)
        repeat' (first
          | (with_reducible refine And.intro ?_ ?_)
          | (refine condC_split (fun h => ?_) (fun h => ?_) <;> (try simp at h) <;> (try simp [-cB, *]))
          | (refine AOps.pureC rfl (wrap_ok _) rfl rfl (by simp) rfl ?_ <;> (try simp [-cB, *]))
          | (refine AOps.pureC rfl (isP_ok w _) rfl rfl (by simp) rfl ?_ <;> (try simp [-cB, *]))
          | (refine AOps.lendC rfl (wrap_ok _) rfl (by simp) rfl rfl (by simp) rfl ?_ <;> (try simp [-cB, *]))
          | (refine AOps.lendC rfl (isP_ok w _) rfl (by simp) rfl rfl (by simp) rfl ?_ <;> (try simp [-cB, *]))
          | (refine AOps.pureG rfl (fun h => wrap_ok _) rfl (by first | rfl | (simp; rfl)) (by simp) (by simp) rfl ?_ <;> (try simp [-cB, *]))
          | (refine AOps.pureG rfl (fun h => isP_ok w _) rfl (by first | rfl | (simp; rfl)) (by simp) (by simp) rfl ?_ <;> (try simp [-cB, *]))
          | (with_reducible intro _))
        all_goals (try omega)
      · refine Pure.run Tryz.func163 rfl (by simp [Tryz.f163]) ?_; simp [-cB, Tryz.f163]
        try intro (_ : Nat → Nat)
        repeat' (first
          | (with_reducible refine And.intro ?_ ?_)
          | (refine condC_split (fun h => ?_) (fun h => ?_) <;> (try simp at h) <;> (try simp [-cB, *]))
          | (refine AOps.pureC rfl (wrap_ok _) rfl rfl (by simp) rfl ?_ <;> (try simp [-cB, *]))
          | (refine AOps.pureC rfl (isP_ok w _) rfl rfl (by simp) rfl ?_ <;> (try simp [-cB, *]))
          | (refine AOps.lendC rfl (wrap_ok _) rfl (by simp) rfl rfl (by simp) rfl ?_ <;> (try simp [-cB, *]))
          | (refine AOps.lendC rfl (isP_ok w _) rfl (by simp) rfl rfl (by simp) rfl ?_ <;> (try simp [-cB, *]))
          | (refine AOps.pureG rfl (fun h => wrap_ok _) rfl (by first | rfl | (simp; rfl)) (by simp) (by simp) rfl ?_ <;> (try simp [-cB, *]))
          | (refine AOps.pureG rfl (fun h => isP_ok w _) rfl (by first | rfl | (simp; rfl)) (by simp) (by simp) rfl ?_ <;> (try simp [-cB, *]))
          | (with_reducible intro _))
        all_goals (try omega)
      · refine Pure.run Tryz.func163 rfl (by simp [Tryz.f163]) ?_; simp [-cB, Tryz.f163]
        try intro (_ : Nat → Nat)
        repeat' (first
          | (with_reducible refine And.intro ?_ ?_)
          | (refine condC_split (fun h => ?_) (fun h => ?_) <;> (try simp at h) <;> (try simp [-cB, *]))
          | (refine AOps.pureC rfl (wrap_ok _) rfl rfl (by simp) rfl ?_ <;> (try simp [-cB, *]))
          | (refine AOps.pureC rfl (isP_ok w _) rfl rfl (by simp) rfl ?_ <;> (try simp [-cB, *]))
          | (refine AOps.lendC rfl (wrap_ok _) rfl (by simp) rfl rfl (by simp) rfl ?_ <;> (try simp [-cB, *]))
          | (refine AOps.lendC rfl (isP_ok w _) rfl (by simp) rfl rfl (by simp) rfl ?_ <;> (try simp [-cB, *]))
          | (refine AOps.pureG rfl (fun h => wrap_ok _) rfl (by first | rfl | (simp; rfl)) (by simp) (by simp) rfl ?_ <;> (try simp [-cB, *]))
          | (refine AOps.pureG rfl (fun h => isP_ok w _) rfl (by first | rfl | (simp; rfl)) (by simp) (by simp) rfl ?_ <;> (try simp [-cB, *]))
          | (with_reducible intro _))
        all_goals (try omega)
  · rw [if_neg hw]
    have a1 : ¬ what = 1 := fun h => hw (by omega)
    have a2 : ¬ what = 2 := fun h => hw (by omega)
    have a3 : ¬ what = 3 := fun h => hw (by omega)
    refine Pure.run Tryz.func163 rfl (by simp [Tryz.f163]) ?_; simp [-cB, Tryz.f163]
    try intro (_ : Nat → Nat)
    repeat' (first
      | (with_reducible refine And.intro ?_ ?_)
      | (refine condC_split (fun h => ?_) (fun h => ?_) <;> (try simp at h) <;> (try simp [-cB, *]))
      | (refine AOps.pureC rfl (wrap_ok _) rfl rfl (by simp) rfl ?_ <;> (try simp [-cB, *]))
      | (refine AOps.pureC rfl (isP_ok w _) rfl rfl (by simp) rfl ?_ <;> (try simp [-cB, *]))
      | (refine AOps.lendC rfl (wrap_ok _) rfl (by simp) rfl rfl (by simp) rfl ?_ <;> (try simp [-cB, *]))
      | (refine AOps.lendC rfl (isP_ok w _) rfl (by simp) rfl rfl (by simp) rfl ?_ <;> (try simp [-cB, *]))
      | (refine AOps.pureG rfl (fun h => wrap_ok _) rfl (by first | rfl | (simp; rfl)) (by simp) (by simp) rfl ?_ <;> (try simp [-cB, *]))
      | (refine AOps.pureG rfl (fun h => isP_ok w _) rfl (by first | rfl | (simp; rfl)) (by simp) (by simp) rfl ?_ <;> (try simp [-cB, *]))
      | (with_reducible intro _))
    all_goals (exact absurd (by assumption) a1)
theorem topM_bdv (t : Tree) (x : Int) : 0 ≤ topM t x ∧ (topM t x = 0 ∨ topM t x < t.Par.length) := by
  unfold topM
  cases h : (upsM t x).getLast? with
  | none => rw [List.getLastD_eq_getLast?, h]; exact ⟨Int.le_refl _, .inl rfl⟩
  | some y =>
    rw [List.getLastD_eq_getLast?, h]
    have hm := List.mem_of_getLast? h
    have := chainM_mem hm
    simp only [Option.getD_some]
    omega
theorem self_ok (w : GWorld) (hw : w.wf) (hn : w.Parent.length ≤ 32768) (e : GEnv) (what : Int) : Pure Tryz.prog 156 [.agg (w.enc.map .d), .agg (e.enc.map .d), .d (.v (.int .i64 what))] (pr2 (selfR w e what)) := by
  unfold selfR pr2
  refine Pure.run Tryz.func156 rfl (by simp [Tryz.f156]) ?_; simp [-cB, Tryz.f156]
  try intro (_ : Nat → Nat)
  have hb := topM_bdv w.tree 1
  have e1 : w.tree.Par = w.Parent := rfl
  rw [e1] at hb
  have w1 : wrapM (topM w.tree 1) = topM w.tree 1 := wrapM_id (by omega)
  have w2 : wrapM 1 = 1 := wrapM_id (by omega)
  clear hb
  repeat' (first
    | (with_reducible refine And.intro ?_ ?_)
    | (refine condC_split (fun h => ?_) (fun h => ?_) <;> (try simp at h) <;> (try simp [-cB, *]))
    | (refine AOps.pureC rfl (wrap_ok _) rfl rfl (by simp) rfl ?_ <;> (try simp [-cB, *]))
    | (refine AOps.pureC rfl (top_ok w hw _) rfl rfl (by simp) rfl ?_ <;> (try simp [-cB, *]))
    | (refine AOps.lendC rfl (wrap_ok _) rfl (by simp) rfl rfl (by simp) rfl ?_ <;> (try simp [-cB, *]))
    | (refine AOps.lendC rfl (top_ok w hw _) rfl (by simp) rfl rfl (by simp) rfl ?_ <;> (try simp [-cB, *]))
    | (refine AOps.pureG rfl (fun h => wrap_ok _) rfl (by first | rfl | (simp; rfl)) (by simp) (by simp) rfl ?_ <;> (try simp [-cB, *]))
    | (refine AOps.pureG rfl (fun h => top_ok w hw _) rfl (by first | rfl | (simp; rfl)) (by simp) (by simp) rfl ?_ <;> (try simp [-cB, *]))
    | (with_reducible intro _))
end Go.Ab

namespace Go.Ab
open Go.Proofs
def binR (w : GWorld) (op a b : Int) : Int × Int :=
  if op = 1 then (tru (decide (wrapM a ≠ 0) || decide (wrapM b ≠ 0)), 0)
  else if op = 2 then (tru (decide (wrapM a ≠ 0) && decide (wrapM b ≠ 0)), 0)
  else if op = 3 then (tru (decide (wrapM a = wrapM b)), 0)
  else if op = 4 then (tru (decide (wrapM a ≠ wrapM b)), 0)
  else if op = 5 then (tru (decide (wrapM a < wrapM b)), 0)
  else if op = 6 then (tru (decide (wrapM a ≤ wrapM b)), 0)
  else if op = 7 then (tru (decide (wrapM b < wrapM a)), 0)
  else if op = 8 then (tru (decide (wrapM b ≤ wrapM a)), 0)
  else if op = 9 then (if isT w.Parent.length (wrapM a) then (tru (decide (atI w.Parent (wrapM a) = wrapM b)), 0) else (0, 11))
  else if op = 10 then (addM (wrapM a) (wrapM b), 0)
  else if op = 11 then (subM (wrapM a) (wrapM b), 0)
  else if op = 12 then (mulM (wrapM a) (wrapM b), 0)
  else if op = 13 then divM (wrapM a) (wrapM b)
  else if op = 14 then modM (wrapM a) (wrapM b)
  else (0, 16)
end Go.Ab

namespace Go.Ab
open Go.Proofs
theorem bin1_ok (b : Bool) : Pure Tryz.prog 223 [.d (.v (.bool b))] (.tup [.d (.v (.int .i64 (tru b))), .d (.v (.int .i64 0))]) := by
  unfold tru
  cases b
  · refine Pure.run Tryz.func223 rfl (by simp [Tryz.f223]) ?_; simp [-cB, Tryz.f223]
  · refine Pure.run Tryz.func223 rfl (by simp [Tryz.f223]) ?_; simp [-cB, Tryz.f223]
set_option maxRecDepth 6000 in
theorem binO1_ok (w : GWorld) (a b : Int) : Pure Tryz.prog 157 [.agg (w.enc.map .d), .d (.v (.int .i64 1)), .d (.v (.int .i64 a)), .d (.v (.int .i64 b))] (pr2 (binR w 1 a b)) := by
  have hd := div_ok (wrapM a) (wrapM b)
  have hm := mod_ok (wrapM a) (wrapM b)
  unfold pr2 at hd hm ⊢
  refine Pure.runA Tryz.func157 rfl (by simp [Tryz.f157]) ?_
  refine AWP.named (fun Q0 hQ0 => ?_)
  simp only [Tryz.f157]
  refine AWP.seqK ?_
  simp [-cB]
  intro bs
  refine AWP.seqK ?_
  simp [-cB]
  refine AOps.pureC rfl (wrap_ok _) rfl rfl (by simp) rfl ?_
  simp [-cB]
  refine AOps.pureC rfl (wrap_ok _) rfl rfl (by simp) rfl ?_
  simp [-cB]
  refine AWP.seqK ?_
  simp [-cB]
  refine AWP.seq ?_
  refine AWP.seqK ?_
  simp [-cB]
  refine AWP.block ?_
  iterate 14 (refine AWP.seq (AWP.block ?_))
  refine AWP.named (fun Q1 hQ1 => ?_)
  refine AWP.ofK ?_
  simp [-cB]
  rw [hQ1]
  repeat (first | refine inB_ne ?_ (by decide) | refine thn_ne ?_)
  refine inB_eq (thn_nrm ?_)
  refine AWP.named (fun Q2 hQ2 => ?_)
  refine AWP.ofK ?_
  simp [-cB]
  refine AOps.pureC rfl (bin1_ok _) rfl rfl (by simp) rfl ?_
  simp [-cB]
  rw [hQ2]
  repeat (first | refine inB_ret ?_ | refine thn_ret ?_)
  rw [hQ0]
  simp [binR]
  all_goals rfl
set_option maxRecDepth 6000 in
theorem binO2_ok (w : GWorld) (a b : Int) : Pure Tryz.prog 157 [.agg (w.enc.map .d), .d (.v (.int .i64 2)), .d (.v (.int .i64 a)), .d (.v (.int .i64 b))] (pr2 (binR w 2 a b)) := by
  have hd := div_ok (wrapM a) (wrapM b)
  have hm := mod_ok (wrapM a) (wrapM b)
  unfold pr2 at hd hm ⊢
  refine Pure.runA Tryz.func157 rfl (by simp [Tryz.f157]) ?_
  refine AWP.named (fun Q0 hQ0 => ?_)
  simp only [Tryz.f157]
  refine AWP.seqK ?_
  simp [-cB]
  intro bs
  refine AWP.seqK ?_
  simp [-cB]
  refine AOps.pureC rfl (wrap_ok _) rfl rfl (by simp) rfl ?_
  simp [-cB]
  refine AOps.pureC rfl (wrap_ok _) rfl rfl (by simp) rfl ?_
  simp [-cB]
  refine AWP.seqK ?_
  simp [-cB]
  refine AWP.seq ?_
  refine AWP.seqK ?_
  simp [-cB]
  refine AWP.block ?_
  iterate 14 (refine AWP.seq (AWP.block ?_))
  refine AWP.named (fun Q1 hQ1 => ?_)
  refine AWP.ofK ?_
  simp [-cB]
  rw [hQ1]
  repeat (first | refine inB_ne ?_ (by decide) | refine thn_ne ?_)
  refine inB_eq (thn_nrm ?_)
  refine AWP.named (fun Q2 hQ2 => ?_)
  refine AWP.ofK ?_
  simp [-cB]
  refine AOps.pureC rfl (bin1_ok _) rfl rfl (by simp) rfl ?_
  simp [-cB]
  rw [hQ2]
  repeat (first | refine inB_ret ?_ | refine thn_ret ?_)
  rw [hQ0]
  simp [binR]
  all_goals rfl
set_option maxRecDepth 6000 in
theorem binO3_ok (w : GWorld) (a b : Int) : Pure Tryz.prog 157 [.agg (w.enc.map .d), .d (.v (.int .i64 3)), .d (.v (.int .i64 a)), .d (.v (.int .i64 b))] (pr2 (binR w 3 a b)) := by
  have hd := div_ok (wrapM a) (wrapM b)
  have hm := mod_ok (wrapM a) (wrapM b)
  unfold pr2 at hd hm ⊢
  refine Pure.runA Tryz.func157 rfl (by simp [Tryz.f157]) ?_
  refine AWP.named (fun Q0 hQ0 => ?_)
  simp only [Tryz.f157]
  refine AWP.seqK ?_
  simp [-cB]
  intro bs
  refine AWP.seqK ?_
  simp [-cB]
  refine AOps.pureC rfl (wrap_ok _) rfl rfl (by simp) rfl ?_
  simp [-cB]
  refine AOps.pureC rfl (wrap_ok _) rfl rfl (by simp) rfl ?_
  simp [-cB]
  refine AWP.seqK ?_
  simp [-cB]
  refine AWP.seq ?_
  refine AWP.seqK ?_
  simp [-cB]
  refine AWP.block ?_
  iterate 14 (refine AWP.seq (AWP.block ?_))
  refine AWP.named (fun Q1 hQ1 => ?_)
  refine AWP.ofK ?_
  simp [-cB]
  rw [hQ1]
  repeat (first | refine inB_ne ?_ (by decide) | refine thn_ne ?_)
  refine inB_eq (thn_nrm ?_)
  refine AWP.named (fun Q2 hQ2 => ?_)
  refine AWP.ofK ?_
  simp [-cB]
  refine AOps.pureC rfl (bin1_ok _) rfl rfl (by simp) rfl ?_
  simp [-cB]
  rw [hQ2]
  repeat (first | refine inB_ret ?_ | refine thn_ret ?_)
  rw [hQ0]
  simp [binR]
  all_goals rfl
set_option maxRecDepth 6000 in
theorem binO4_ok (w : GWorld) (a b : Int) : Pure Tryz.prog 157 [.agg (w.enc.map .d), .d (.v (.int .i64 4)), .d (.v (.int .i64 a)), .d (.v (.int .i64 b))] (pr2 (binR w 4 a b)) := by
  have hd := div_ok (wrapM a) (wrapM b)
  have hm := mod_ok (wrapM a) (wrapM b)
  unfold pr2 at hd hm ⊢
  refine Pure.runA Tryz.func157 rfl (by simp [Tryz.f157]) ?_
  refine AWP.named (fun Q0 hQ0 => ?_)
  simp only [Tryz.f157]
  refine AWP.seqK ?_
  simp [-cB]
  intro bs
  refine AWP.seqK ?_
  simp [-cB]
  refine AOps.pureC rfl (wrap_ok _) rfl rfl (by simp) rfl ?_
  simp [-cB]
  refine AOps.pureC rfl (wrap_ok _) rfl rfl (by simp) rfl ?_
  simp [-cB]
  refine AWP.seqK ?_
  simp [-cB]
  refine AWP.seq ?_
  refine AWP.seqK ?_
  simp [-cB]
  refine AWP.block ?_
  iterate 14 (refine AWP.seq (AWP.block ?_))
  refine AWP.named (fun Q1 hQ1 => ?_)
  refine AWP.ofK ?_
  simp [-cB]
  rw [hQ1]
  repeat (first | refine inB_ne ?_ (by decide) | refine thn_ne ?_)
  refine inB_eq (thn_nrm ?_)
  refine AWP.named (fun Q2 hQ2 => ?_)
  refine AWP.ofK ?_
  simp [-cB]
  refine AOps.pureC rfl (bin1_ok _) rfl rfl (by simp) rfl ?_
  simp [-cB]
  rw [hQ2]
  repeat (first | refine inB_ret ?_ | refine thn_ret ?_)
  rw [hQ0]
  simp [binR]
  all_goals rfl
set_option maxRecDepth 6000 in
theorem binO7_ok (w : GWorld) (a b : Int) : Pure Tryz.prog 157 [.agg (w.enc.map .d), .d (.v (.int .i64 7)), .d (.v (.int .i64 a)), .d (.v (.int .i64 b))] (pr2 (binR w 7 a b)) := by
  have hd := div_ok (wrapM a) (wrapM b)
  have hm := mod_ok (wrapM a) (wrapM b)
  unfold pr2 at hd hm ⊢
  refine Pure.runA Tryz.func157 rfl (by simp [Tryz.f157]) ?_
  refine AWP.named (fun Q0 hQ0 => ?_)
  simp only [Tryz.f157]
  refine AWP.seqK ?_
  simp [-cB]
  intro bs
  refine AWP.seqK ?_
  simp [-cB]
  refine AOps.pureC rfl (wrap_ok _) rfl rfl (by simp) rfl ?_
  simp [-cB]
  refine AOps.pureC rfl (wrap_ok _) rfl rfl (by simp) rfl ?_
  simp [-cB]
  refine AWP.seqK ?_
  simp [-cB]
  refine AWP.seq ?_
  refine AWP.seqK ?_
  simp [-cB]
  refine AWP.block ?_
  iterate 14 (refine AWP.seq (AWP.block ?_))
  refine AWP.named (fun Q1 hQ1 => ?_)
  refine AWP.ofK ?_
  simp [-cB]
  rw [hQ1]
  repeat (first | refine inB_ne ?_ (by decide) | refine thn_ne ?_)
  refine inB_eq (thn_nrm ?_)
  refine AWP.named (fun Q3 hQ3 => ?_)
  refine AWP.ofK ?_
  simp [-cB]
  rw [hQ3]
  refine inB_nrm (thn_nrm ?_)
  refine AWP.named (fun Q2 hQ2 => ?_)
  refine AWP.ofK ?_
  simp [-cB]
  refine AOps.pureC rfl (bin1_ok _) rfl rfl (by simp) rfl ?_
  simp [-cB]
  rw [hQ2]
  repeat (first | refine inB_ret ?_ | refine thn_ret ?_)
  rw [hQ0]
  simp [binR]
  all_goals rfl
set_option maxRecDepth 6000 in
theorem binO5_ok (w : GWorld) (a b : Int) : Pure Tryz.prog 157 [.agg (w.enc.map .d), .d (.v (.int .i64 5)), .d (.v (.int .i64 a)), .d (.v (.int .i64 b))] (pr2 (binR w 5 a b)) := by
  have hd := div_ok (wrapM a) (wrapM b)
  have hm := mod_ok (wrapM a) (wrapM b)
  unfold pr2 at hd hm ⊢
  refine Pure.runA Tryz.func157 rfl (by simp [Tryz.f157]) ?_
  refine AWP.named (fun Q0 hQ0 => ?_)
  simp only [Tryz.f157]
  refine AWP.seqK ?_
  simp [-cB]
  intro bs
  refine AWP.seqK ?_
  simp [-cB]
  refine AOps.pureC rfl (wrap_ok _) rfl rfl (by simp) rfl ?_
  simp [-cB]
  refine AOps.pureC rfl (wrap_ok _) rfl rfl (by simp) rfl ?_
  simp [-cB]
  refine AWP.seqK ?_
  simp [-cB]
  refine AWP.seq ?_
  refine AWP.seqK ?_
  simp [-cB]
  refine AWP.block ?_
  iterate 14 (refine AWP.seq (AWP.block ?_))
  refine AWP.named (fun Q1 hQ1 => ?_)
  refine AWP.ofK ?_
  simp [-cB]
  rw [hQ1]
  repeat (first | refine inB_ne ?_ (by decide) | refine thn_ne ?_)
  refine inB_eq (thn_nrm ?_)
  refine AWP.named (fun Q2 hQ2 => ?_)
  refine AWP.ofK ?_
  simp [-cB]
  refine AOps.pureC rfl (bin1_ok _) rfl rfl (by simp) rfl ?_
  simp [-cB]
  rw [hQ2]
  repeat (first | refine inB_ret ?_ | refine thn_ret ?_)
  rw [hQ0]
  simp [binR]
  all_goals rfl
set_option maxRecDepth 6000 in
theorem binO8_ok (w : GWorld) (a b : Int) : Pure Tryz.prog 157 [.agg (w.enc.map .d), .d (.v (.int .i64 8)), .d (.v (.int .i64 a)), .d (.v (.int .i64 b))] (pr2 (binR w 8 a b)) := by
  have hd := div_ok (wrapM a) (wrapM b)
  have hm := mod_ok (wrapM a) (wrapM b)
  unfold pr2 at hd hm ⊢
  refine Pure.runA Tryz.func157 rfl (by simp [Tryz.f157]) ?_
  refine AWP.named (fun Q0 hQ0 => ?_)
  simp only [Tryz.f157]
  refine AWP.seqK ?_
  simp [-cB]
  intro bs
  refine AWP.seqK ?_
  simp [-cB]
  refine AOps.pureC rfl (wrap_ok _) rfl rfl (by simp) rfl ?_
  simp [-cB]
  refine AOps.pureC rfl (wrap_ok _) rfl rfl (by simp) rfl ?_
  simp [-cB]
  refine AWP.seqK ?_
  simp [-cB]
  refine AWP.seq ?_
  refine AWP.seqK ?_
  simp [-cB]
  refine AWP.block ?_
  iterate 14 (refine AWP.seq (AWP.block ?_))
  refine AWP.named (fun Q1 hQ1 => ?_)
  refine AWP.ofK ?_
  simp [-cB]
  rw [hQ1]
  repeat (first | refine inB_ne ?_ (by decide) | refine thn_ne ?_)
  refine inB_eq (thn_nrm ?_)
  refine AWP.named (fun Q3 hQ3 => ?_)
  refine AWP.ofK ?_
  simp [-cB]
  rw [hQ3]
  refine inB_nrm (thn_nrm ?_)
  refine AWP.named (fun Q2 hQ2 => ?_)
  refine AWP.ofK ?_
  simp [-cB]
  refine AOps.pureC rfl (bin1_ok _) rfl rfl (by simp) rfl ?_
  simp [-cB]
  rw [hQ2]
  repeat (first | refine inB_ret ?_ | refine thn_ret ?_)
  rw [hQ0]
  simp [binR]
  all_goals rfl
set_option maxRecDepth 6000 in
theorem binO6_ok (w : GWorld) (a b : Int) : Pure Tryz.prog 157 [.agg (w.enc.map .d), .d (.v (.int .i64 6)), .d (.v (.int .i64 a)), .d (.v (.int .i64 b))] (pr2 (binR w 6 a b)) := by
  have hd := div_ok (wrapM a) (wrapM b)
  have hm := mod_ok (wrapM a) (wrapM b)
  unfold pr2 at hd hm ⊢
  refine Pure.runA Tryz.func157 rfl (by simp [Tryz.f157]) ?_
  refine AWP.named (fun Q0 hQ0 => ?_)
  simp only [Tryz.f157]
  refine AWP.seqK ?_
  simp [-cB]
  intro bs
  refine AWP.seqK ?_
  simp [-cB]
  refine AOps.pureC rfl (wrap_ok _) rfl rfl (by simp) rfl ?_
  simp [-cB]
  refine AOps.pureC rfl (wrap_ok _) rfl rfl (by simp) rfl ?_
  simp [-cB]
  refine AWP.seqK ?_
  simp [-cB]
  refine AWP.seq ?_
  refine AWP.seqK ?_
  simp [-cB]
  refine AWP.block ?_
  iterate 14 (refine AWP.seq (AWP.block ?_))
  refine AWP.named (fun Q1 hQ1 => ?_)
  refine AWP.ofK ?_
  simp [-cB]
  rw [hQ1]
  repeat (first | refine inB_ne ?_ (by decide) | refine thn_ne ?_)
  refine inB_eq (thn_nrm ?_)
  refine AWP.named (fun Q2 hQ2 => ?_)
  refine AWP.ofK ?_
  simp [-cB]
  refine AOps.pureC rfl (bin1_ok _) rfl rfl (by simp) rfl ?_
  simp [-cB]
  rw [hQ2]
  repeat (first | refine inB_ret ?_ | refine thn_ret ?_)
  rw [hQ0]
  simp [binR]
  all_goals rfl
set_option maxRecDepth 6000 in
theorem binO10_ok (w : GWorld) (a b : Int) : Pure Tryz.prog 157 [.agg (w.enc.map .d), .d (.v (.int .i64 10)), .d (.v (.int .i64 a)), .d (.v (.int .i64 b))] (pr2 (binR w 10 a b)) := by
  have hd := div_ok (wrapM a) (wrapM b)
  have hm := mod_ok (wrapM a) (wrapM b)
  unfold pr2 at hd hm ⊢
  refine Pure.runA Tryz.func157 rfl (by simp [Tryz.f157]) ?_
  refine AWP.named (fun Q0 hQ0 => ?_)
  simp only [Tryz.f157]
  refine AWP.seqK ?_
  simp [-cB]
  intro bs
  refine AWP.seqK ?_
  simp [-cB]
  refine AOps.pureC rfl (wrap_ok _) rfl rfl (by simp) rfl ?_
  simp [-cB]
  refine AOps.pureC rfl (wrap_ok _) rfl rfl (by simp) rfl ?_
  simp [-cB]
  refine AWP.seqK ?_
  simp [-cB]
  refine AWP.seq ?_
  refine AWP.seqK ?_
  simp [-cB]
  refine AWP.block ?_
  iterate 14 (refine AWP.seq (AWP.block ?_))
  refine AWP.named (fun Q1 hQ1 => ?_)
  refine AWP.ofK ?_
  simp [-cB]
  rw [hQ1]
  repeat (first | refine inB_ne ?_ (by decide) | refine thn_ne ?_)
  refine inB_eq (thn_nrm ?_)
  refine AWP.named (fun Q2 hQ2 => ?_)
  refine AWP.ofK ?_
  simp [-cB]
  refine AOps.pureC rfl (add_ok _ _) rfl rfl (by simp) rfl ?_
  simp [-cB]
  rw [hQ2]
  repeat (first | refine inB_ret ?_ | refine thn_ret ?_)
  rw [hQ0]
  simp [binR]
  all_goals rfl
set_option maxRecDepth 6000 in
theorem binO11_ok (w : GWorld) (a b : Int) : Pure Tryz.prog 157 [.agg (w.enc.map .d), .d (.v (.int .i64 11)), .d (.v (.int .i64 a)), .d (.v (.int .i64 b))] (pr2 (binR w 11 a b)) := by
  have hd := div_ok (wrapM a) (wrapM b)
  have hm := mod_ok (wrapM a) (wrapM b)
  unfold pr2 at hd hm ⊢
  refine Pure.runA Tryz.func157 rfl (by simp [Tryz.f157]) ?_
  refine AWP.named (fun Q0 hQ0 => ?_)
  simp only [Tryz.f157]
  refine AWP.seqK ?_
  simp [-cB]
  intro bs
  refine AWP.seqK ?_
  simp [-cB]
  refine AOps.pureC rfl (wrap_ok _) rfl rfl (by simp) rfl ?_
  simp [-cB]
  refine AOps.pureC rfl (wrap_ok _) rfl rfl (by simp) rfl ?_
  simp [-cB]
  refine AWP.seqK ?_
  simp [-cB]
  refine AWP.seq ?_
  refine AWP.seqK ?_
  simp [-cB]
  refine AWP.block ?_
  iterate 14 (refine AWP.seq (AWP.block ?_))
  refine AWP.named (fun Q1 hQ1 => ?_)
  refine AWP.ofK ?_
  simp [-cB]
  rw [hQ1]
  repeat (first | refine inB_ne ?_ (by decide) | refine thn_ne ?_)
  refine inB_eq (thn_nrm ?_)
  refine AWP.named (fun Q2 hQ2 => ?_)
  refine AWP.ofK ?_
  simp [-cB]
  refine AOps.pureC rfl (sub_ok _ _) rfl rfl (by simp) rfl ?_
  simp [-cB]
  rw [hQ2]
  repeat (first | refine inB_ret ?_ | refine thn_ret ?_)
  rw [hQ0]
  simp [binR]
  all_goals rfl
set_option maxRecDepth 6000 in
theorem binO12_ok (w : GWorld) (a b : Int) : Pure Tryz.prog 157 [.agg (w.enc.map .d), .d (.v (.int .i64 12)), .d (.v (.int .i64 a)), .d (.v (.int .i64 b))] (pr2 (binR w 12 a b)) := by
  have hd := div_ok (wrapM a) (wrapM b)
  have hm := mod_ok (wrapM a) (wrapM b)
  unfold pr2 at hd hm ⊢
  refine Pure.runA Tryz.func157 rfl (by simp [Tryz.f157]) ?_
  refine AWP.named (fun Q0 hQ0 => ?_)
  simp only [Tryz.f157]
  refine AWP.seqK ?_
  simp [-cB]
  intro bs
  refine AWP.seqK ?_
  simp [-cB]
  refine AOps.pureC rfl (wrap_ok _) rfl rfl (by simp) rfl ?_
  simp [-cB]
  refine AOps.pureC rfl (wrap_ok _) rfl rfl (by simp) rfl ?_
  simp [-cB]
  refine AWP.seqK ?_
  simp [-cB]
  refine AWP.seq ?_
  refine AWP.seqK ?_
  simp [-cB]
  refine AWP.block ?_
  iterate 14 (refine AWP.seq (AWP.block ?_))
  refine AWP.named (fun Q1 hQ1 => ?_)
  refine AWP.ofK ?_
  simp [-cB]
  rw [hQ1]
  repeat (first | refine inB_ne ?_ (by decide) | refine thn_ne ?_)
  refine inB_eq (thn_nrm ?_)
  refine AWP.named (fun Q2 hQ2 => ?_)
  refine AWP.ofK ?_
  simp [-cB]
  refine AOps.pureC rfl (mul_ok _ _) rfl rfl (by simp) rfl ?_
  simp [-cB]
  rw [hQ2]
  repeat (first | refine inB_ret ?_ | refine thn_ret ?_)
  rw [hQ0]
  simp [binR]
  all_goals rfl
set_option maxRecDepth 6000 in
theorem binO13_ok (w : GWorld) (a b : Int) : Pure Tryz.prog 157 [.agg (w.enc.map .d), .d (.v (.int .i64 13)), .d (.v (.int .i64 a)), .d (.v (.int .i64 b))] (pr2 (binR w 13 a b)) := by
  have hd := div_ok (wrapM a) (wrapM b)
  have hm := mod_ok (wrapM a) (wrapM b)
  unfold pr2 at hd hm ⊢
  refine Pure.runA Tryz.func157 rfl (by simp [Tryz.f157]) ?_
  refine AWP.named (fun Q0 hQ0 => ?_)
  simp only [Tryz.f157]
  refine AWP.seqK ?_
  simp [-cB]
  intro bs
  refine AWP.seqK ?_
  simp [-cB]
  refine AOps.pureC rfl (wrap_ok _) rfl rfl (by simp) rfl ?_
  simp [-cB]
  refine AOps.pureC rfl (wrap_ok _) rfl rfl (by simp) rfl ?_
  simp [-cB]
  refine AWP.seqK ?_
  simp [-cB]
  refine AWP.seq ?_
  refine AWP.seqK ?_
  simp [-cB]
  refine AWP.block ?_
  iterate 14 (refine AWP.seq (AWP.block ?_))
  refine AWP.named (fun Q1 hQ1 => ?_)
  refine AWP.ofK ?_
  simp [-cB]
  rw [hQ1]
  repeat (first | refine inB_ne ?_ (by decide) | refine thn_ne ?_)
  refine inB_eq (thn_nrm ?_)
  refine AWP.named (fun Q2 hQ2 => ?_)
  refine AWP.ofK ?_
  simp [-cB]
  refine AOps.pureC rfl (hd) rfl rfl (by simp) rfl ?_
  simp [-cB]
  rw [hQ2]
  repeat (first | refine inB_ret ?_ | refine thn_ret ?_)
  rw [hQ0]
  simp [binR]
  all_goals rfl
set_option maxRecDepth 6000 in
theorem binO14_ok (w : GWorld) (a b : Int) : Pure Tryz.prog 157 [.agg (w.enc.map .d), .d (.v (.int .i64 14)), .d (.v (.int .i64 a)), .d (.v (.int .i64 b))] (pr2 (binR w 14 a b)) := by
  have hd := div_ok (wrapM a) (wrapM b)
  have hm := mod_ok (wrapM a) (wrapM b)
  unfold pr2 at hd hm ⊢
  refine Pure.runA Tryz.func157 rfl (by simp [Tryz.f157]) ?_
  refine AWP.named (fun Q0 hQ0 => ?_)
  simp only [Tryz.f157]
  refine AWP.seqK ?_
  simp [-cB]
  intro bs
  refine AWP.seqK ?_
  simp [-cB]
  refine AOps.pureC rfl (wrap_ok _) rfl rfl (by simp) rfl ?_
  simp [-cB]
  refine AOps.pureC rfl (wrap_ok _) rfl rfl (by simp) rfl ?_
  simp [-cB]
  refine AWP.seqK ?_
  simp [-cB]
  refine AWP.seq ?_
  refine AWP.seqK ?_
  simp [-cB]
  refine AWP.block ?_
  iterate 14 (refine AWP.seq (AWP.block ?_))
  refine AWP.named (fun Q1 hQ1 => ?_)
  refine AWP.ofK ?_
  simp [-cB]
  rw [hQ1]
  repeat (first | refine inB_ne ?_ (by decide) | refine thn_ne ?_)
  refine inB_eq (thn_nrm ?_)
  refine AWP.named (fun Q2 hQ2 => ?_)
  refine AWP.ofK ?_
  simp [-cB]
  refine AOps.pureC rfl (hm) rfl rfl (by simp) rfl ?_
  simp [-cB]
  rw [hQ2]
  repeat (first | refine inB_ret ?_ | refine thn_ret ?_)
  rw [hQ0]
  simp [binR]
  all_goals rfl
set_option maxRecDepth 6000 in
theorem binO9_ok (w : GWorld) (hC : w.Child.length = w.Parent.length) (hN : w.Next.length = w.Parent.length) (a b : Int) : Pure Tryz.prog 157 [.agg (w.enc.map .d), .d (.v (.int .i64 9)), .d (.v (.int .i64 a)), .d (.v (.int .i64 b))] (pr2 (binR w 9 a b)) := by
  have hT := tree_ok w hC hN 1 (wrapM a)
  have hB : binR w 9 a b = if (treeR w 1 (wrapM a)).2 = 0 then (tru (decide ((treeR w 1 (wrapM a)).1 = wrapM b)), 0) else (0, (treeR w 1 (wrapM a)).2) := by
    simp only [binR, treeR, wrapM_wrapM]
    cases isT w.Parent.length (wrapM a) <;> simp
  rw [hB]
  unfold pr2 at hT ⊢
  generalize treeR w 1 (wrapM a) = p at *
  refine Pure.runA Tryz.func157 rfl (by simp [Tryz.f157]) ?_
  refine AWP.named (fun Q0 hQ0 => ?_)
  simp only [Tryz.f157]
  refine AWP.seqK ?_
  simp [-cB]
  intro bs
  refine AWP.seqK ?_
  simp [-cB]
  refine AOps.pureC rfl (wrap_ok _) rfl rfl (by simp) rfl ?_
  simp [-cB]
  refine AOps.pureC rfl (wrap_ok _) rfl rfl (by simp) rfl ?_
  simp [-cB]
  refine AWP.seqK ?_
  simp [-cB]
  refine AWP.seq ?_
  refine AWP.seqK ?_
  simp [-cB]
  refine AWP.block ?_
  iterate 14 (refine AWP.seq (AWP.block ?_))
  refine AWP.named (fun Q1 hQ1 => ?_)
  refine AWP.ofK ?_
  simp [-cB]
  rw [hQ1]
  repeat (first | refine inB_ne ?_ (by decide) | refine thn_ne ?_)
  refine inB_eq (thn_nrm ?_)
  refine AWP.named (fun Q2 hQ2 => ?_)
  refine AWP.ofK ?_
  simp [-cB]
  by_cases he : p.2 = 0
  · rw [he] at hT
    refine AOps.pureC rfl (hT) rfl rfl (by simp) rfl ?_
    simp [-cB]
    refine AOps.pureC rfl (bin1_ok _) rfl rfl (by simp) rfl ?_
    simp [-cB]
    rw [hQ2]
    repeat (first | refine inB_ret ?_ | refine thn_ret ?_)
    rw [hQ0]
    simp [he]
  · refine AOps.pureC rfl (hT) rfl rfl (by simp) rfl ?_
    simp [-cB, he]
    rw [hQ2]
    repeat (first | refine inB_ret ?_ | refine thn_ret ?_)
    rw [hQ0]
    simp [he]
set_option maxRecDepth 6000 in
theorem binOx_ok (w : GWorld) (op a b : Int) (ho : op < 1 ∨ 14 < op) : Pure Tryz.prog 157 [.agg (w.enc.map .d), .d (.v (.int .i64 op)), .d (.v (.int .i64 a)), .d (.v (.int .i64 b))] (pr2 (binR w op a b)) := by
  have n1 : op ≠ 1 := by omega
  have n2 : op ≠ 2 := by omega
  have n3 : op ≠ 3 := by omega
  have n4 : op ≠ 4 := by omega
  have n5 : op ≠ 5 := by omega
  have n6 : op ≠ 6 := by omega
  have n7 : op ≠ 7 := by omega
  have n8 : op ≠ 8 := by omega
  have n9 : op ≠ 9 := by omega
  have n10 : op ≠ 10 := by omega
  have n11 : op ≠ 11 := by omega
  have n12 : op ≠ 12 := by omega
  have n13 : op ≠ 13 := by omega
  have n14 : op ≠ 14 := by omega
  have hB : binR w op a b = (0, 16) := by simp [binR, n1, n2, n3, n4, n5, n6, n7, n8, n9, n10, n11, n12, n13, n14]
  rw [hB]
  unfold pr2
  refine Pure.runA Tryz.func157 rfl (by simp [Tryz.f157]) ?_
  refine AWP.named (fun Q0 hQ0 => ?_)
  simp only [Tryz.f157]
  refine AWP.seqK ?_
  simp [-cB]
  intro bs
  refine AWP.seqK ?_
  simp [-cB]
  refine AOps.pureC rfl (wrap_ok _) rfl rfl (by simp) rfl ?_
  simp [-cB]
  refine AOps.pureC rfl (wrap_ok _) rfl rfl (by simp) rfl ?_
  simp [-cB]
  refine AWP.seqK ?_
  simp [-cB]
  refine AWP.seq ?_
  refine AWP.seqK ?_
  simp [-cB]
  refine AWP.block ?_
  iterate 14 (refine AWP.seq (AWP.block ?_))
  refine AWP.named (fun Q1 hQ1 => ?_)
  refine AWP.ofK ?_
  simp [-cB, n1, n2, n3, n4, n5, n6, n7, n8, n9, n10, n11, n12, n13, n14]
  rw [hQ1]
  repeat (first | refine inB_ne ?_ (by decide) | refine thn_ne ?_)
  refine inB_eq (thn_nrm ?_)
  refine AWP.named (fun Q2 hQ2 => ?_)
  refine AWP.ofK ?_
  simp [-cB]
  rw [hQ2]
  rw [hQ0]
  simp
theorem bin_ok (w : GWorld) (hC : w.Child.length = w.Parent.length) (hN : w.Next.length = w.Parent.length) (op a b : Int) : Pure Tryz.prog 157 [.agg (w.enc.map .d), .d (.v (.int .i64 op)), .d (.v (.int .i64 a)), .d (.v (.int .i64 b))] (pr2 (binR w op a b)) := by
  have : (op < 1 ∨ 14 < op) ∨ op = 1 ∨ op = 2 ∨ op = 3 ∨ op = 4 ∨ op = 5 ∨ op = 6 ∨ op = 7 ∨ op = 8 ∨ op = 9 ∨ op = 10 ∨ op = 11 ∨ op = 12 ∨ op = 13 ∨ op = 14 := by omega
  rcases this with h | rfl | rfl | rfl | rfl | rfl | rfl | rfl | rfl | rfl | rfl | rfl | rfl | rfl | rfl
  · exact binOx_ok w op a b h
  · exact binO1_ok w a b
  · exact binO2_ok w a b
  · exact binO3_ok w a b
  · exact binO4_ok w a b
  · exact binO5_ok w a b
  · exact binO6_ok w a b
  · exact binO7_ok w a b
  · exact binO8_ok w a b
  · exact binO9_ok w hC hN a b
  · exact binO10_ok w a b
  · exact binO11_ok w a b
  · exact binO12_ok w a b
  · exact binO13_ok w a b
  · exact binO14_ok w a b
end Go.Ab

namespace Go.Ab
open Go.Proofs
structure BldAt (cs : List V) (h off g : Nat) : Prop where
  len : off + 1 < cs.length
  self : cs[off]? = some (.d (.v (.pointer none))) ∨ cs[off]? = some (.bp h off)
  buf : cs[off + 1]? = some (.rv g)
theorem copyCheck_ok {h g off b ty : Nat} {cs : List V} {r : Res} (hg : h ≠ g) (hlen : off < cs.length) (hself : cs[off]? = some (.d (.v (.pointer none))) ∨ cs[off]? = some (.bp h off)) (hlies : liesAt Tryz.prog Tryz.prog.depth ty (cs.length / Tryz.prog.cellsOf ty) off 84 1 = true) :
    ACalls Tryz.prog 292 [.bp h off] [(h, .box b ty cs), (g, r)] (fun q L' => q = .ret (.tup []) ∧ L' = [(h, .box b ty (putAt off [.bp h off] cs)), (g, r)]) := by
  refine ACalls.run Tryz.func292 rfl (by simp [Tryz.f292]) ?_; simp [Tryz.f292]
  refine ⟨hlen, ?_⟩
  have hL : List.lookup h [(h, Res.box b ty cs), (g, r)] = some (.box b ty cs) := by simp
  rcases hself with h0 | h0
  · simp [h0]
    refine AOps.byT (OpT.ptrNil rfl tyPtr_82 rfl rfl) rfl (by simp) rfl ?_
    simp
    refine AOps.byT (OpT.toUns (i := (Tryz.prog.info? 84).get!) rfl tyPtr_82 (by kernel_rfl) (by kernel_rfl) (by decide +kernel) rfl hL hlen) rfl (by simp) rfl ?_
    simp
    refine AOps.byT (OpT.noEscape (f := 316) rfl rfl Tryz.func316 (by kernel_rfl) (by kernel_rfl) (by kernel_rfl) (by kernel_rfl)) rfl (by simp) rfl ?_
    simp
    refine AOps.byT (OpT.ofUns (i := (Tryz.prog.info? 84).get!) rfl (by kernel_rfl) tyPtr_82 (by kernel_rfl) rfl hL hlies) rfl (by simp) rfl ?_
    simp [Ne.symm hg]
    omega
  · simp [h0]
    refine AOps.byT (OpT.ptrBp rfl tyPtr_82 rfl rfl) rfl (by simp) rfl ?_
    have h0' : cs[off]'hlen = .bp h off := (List.getElem?_eq_some_iff.1 h0).2
    simp [h0, h0', hlen]
    refine AOps.byT (OpT.ptrSame (i := (Tryz.prog.info? 84).get!) rfl tyPtr_82 (by kernel_rfl) rfl rfl) rfl (by simp) rfl ?_
    simp
    rw [← List.getElem?_eq_some_iff.1 h0 |>.2]
    simp
@[simp] theorem encU_append (a b : List UInt8) : encU a ++ encU b = encU (a ++ b) := by simp [encU]
theorem srcU (s : ByteArray) : (s.data.toList.map fun b => [D.v (.int .u8 (b.toNat : Nat))]) = encU s.data.toList := rfl
@[simp] theorem encU_length (l : List UInt8) : (encU l).length = l.length := by simp [encU]
def rowU (b : ByteArray) : List (List V) := dd (encU b.data.toList)
@[simp] theorem rowU_kill (h : Nat) (b : ByteArray) : (rowU b).map (V.kills h) = rowU b := by simp [rowU]
@[simp] theorem rowU_on (ks : List Nat) (b : ByteArray) : (rowU b).all (V.ons ks) = true := by simp [rowU]
theorem writeString_ok {h off g b ty : Nat} {cs : List V} {bs : ByteArray} (s : ByteArray) (hg : h ≠ g ∧ h ≠ 14 ∧ g ≠ 14) (hlen : off + 1 < cs.length) (hself : cs[off]? = some (.d (.v (.pointer none))) ∨ cs[off]? = some (.bp h off)) (hbuf : cs[off + 1]? = some (.rv g))
    (hkill : putAt (off + 1) [.rv g] (V.kills g (putAt off [.bp h off] cs)) = putAt off [.bp h off] cs) (hon : V.ons [h, g] cs = true)
    (hlies : liesAt Tryz.prog Tryz.prog.depth ty (cs.length / Tryz.prog.cellsOf ty) off 84 1 = true) (hsz : bs.size + s.size ≤ 140737488355328) :
    ACalls Tryz.prog 249 [.bp h off, .d (.v (.string s))] [(h, .box (b + 1) ty cs), (g, .row 5 1 (dd (encU bs.data.toList)))]
      (fun r L' => r = .ret (.tup [.d (.v (.int .i64 s.size)), .d (.v .nilIface)]) ∧ L' = [(h, .box (b + 1) ty (putAt off [.bp h off] cs)), (g, .row 5 1 (dd (encU (bs ++ s).data.toList)))]) := by
  have hgh : (g == h) = false := by simpa using Ne.symm hg.1
  refine ACalls.run Tryz.func249 rfl (by simp [Tryz.f249]) ?_; simp [Tryz.f249]
  refine AOps.effD [h, g] rfl (copyCheck_ok (b := b + 1) (r := .row 5 1 (dd (encU bs.data.toList))) hg.1 (by omega) hself hlies) (by simp) rfl (by simp) rfl (by kernel_rfl) (by simp) (by simp [hon, hg.1]) (by simp) (by simp) (by simp) ?_
  have hp1 : (putAt off [.bp h off] cs)[off + 1]? = some (.rv g) := by
    have e : (List.take off cs ++ [V.bp h off]).length = off + 1 := by simp; omega
    rw [← hbuf, putAt, List.getElem?_append_right (by omega), e, Nat.sub_self, List.getElem?_drop]
    simp
  have hpl : (putAt off [.bp h off] cs).length = cs.length := by simp [putAt]; omega
  have hke : putAt off [.bp h off] cs = List.take off cs ++ V.bp h off :: List.drop (off + 1) cs := by simp [putAt]
  rw [← hke]
  generalize putAt off [.bp h off] cs = cs' at *
  have hp2 : cs'[off + 1]'(by omega) = .rv g := (List.getElem?_eq_some_iff.1 hp1).2
  have hl2 : off + 1 < cs'.length := by omega
  simp [hp1, hp2, hl2, hg.1, hgh, Ne.symm hg.1]
  refine ⟨hsz, by rw [kills_eq]; simp; omega, ?_, ?_⟩
  · simpa [putAt] using hkill
  · rw [srcU, encU_append]
theorem string_ok {h off g b ty : Nat} {cs : List V} {bs : ByteArray} (hg : h ≠ g) (hlen : off + 1 < cs.length) (hbuf : cs[off + 1]? = some (.rv g)) (hsz : bs.size ≤ 140737488355328) :
    ACalls Tryz.prog 85 [.bp h off] [(h, .box b ty cs), (g, .row 5 1 (dd (encU bs.data.toList)))] (fun r L' => r = .ret (.d (.v (.string bs))) ∧ L' = [(h, .box b ty (V.kills g cs))]) := by
  refine ACalls.rem g rfl ?_
  have hgh : (g == h) = false := by simpa using Ne.symm hg
  have hb0 : cs[off + 1]'hlen = .rv g := (List.getElem?_eq_some_iff.1 hbuf).2
  refine ACalls.run Tryz.func85 rfl (by simp [Tryz.f85]) ?_; simp [Tryz.f85]
  refine AWP.regionM0 [some (0, 0), some (0, 0), some (0, 0), some (0, 0), none, some (0, 1), some (0, 1), some (0, 1), some (0, 1), some (0, 1), none, some (2, 2)] [] Tryz.mixed (by kernel_rfl) ?_
  by_cases hb : bs.data.toList = []
  · have he : bs = ⟨#[]⟩ := by
      cases bs with
      | mk d => cases d with
        | mk l => simp only at hb; subst hb; rfl
    have hd : dd (encU ([] : List UInt8)) = [] := rfl
    subst he
    simp [hb0, hlen, hgh, hd, hg]
  · have hb' : bs.data.toList.isEmpty = false := by simpa using hb
    have hd : ¬ dd (encU bs.data.toList) = [] := by
      intro e
      have : (dd (encU bs.data.toList)).length = 0 := by rw [e]; rfl
      simp at this
      exact hb (by rw [this]; rfl)
    simp [hb0, hlen, hgh, hd, hg, kills_kills]
    exact List.length_pos_iff.2 hb
end Go.Ab

namespace Go.Ab
open Go.Proofs
structure XC where
  B : GBook
  E : GEnv
  M : Int
structure XS where
  W : GWorld
  Out : ByteArray
  Wr : Bool
  Fuel : Int
  Dp : Int
  Ls : List Int
def adV : Bool → V
  | true => .bp 5003 32
  | false => .d (.v (.pointer none))
def rnC (c : XC) (σ : XS) : List V := c.B.enc.map V.d ++ (σ.W.enc.map V.d ++ (c.E.enc.map V.d ++ [adV σ.Wr, .rv 5004, .d (.v (.int .i64 c.M)), .d (.v (.int .i64 σ.Fuel)), .d (.v (.int .i64 σ.Dp))]))
def lsC (l : List Int) : List V := l.map fun n => .d (.v (.int .i64 n))
@[simp] theorem rnC_len (c : XC) (σ : XS) : (rnC c σ).length = 37 := rfl
@[simp] theorem rnC_35 (c : XC) (σ : XS) : (rnC c σ)[35]? = some (.d (.v (.int .i64 σ.Fuel))) := rfl
@[simp] theorem rnC_34 (c : XC) (σ : XS) : (rnC c σ)[34]? = some (.d (.v (.int .i64 c.M))) := rfl
@[simp] theorem rnC_36 (c : XC) (σ : XS) : (rnC c σ)[36]? = some (.d (.v (.int .i64 σ.Dp))) := rfl
@[simp] theorem rnC_g35 (c : XC) (σ : XS) (h : 35 < (rnC c σ).length) : (rnC c σ)[35] = .d (.v (.int .i64 σ.Fuel)) := rfl
@[simp] theorem rnC_g34 (c : XC) (σ : XS) (h : 34 < (rnC c σ).length) : (rnC c σ)[34] = .d (.v (.int .i64 c.M)) := rfl
@[simp] theorem rnC_g36 (c : XC) (σ : XS) (h : 36 < (rnC c σ).length) : (rnC c σ)[36] = .d (.v (.int .i64 σ.Dp)) := rfl
@[simp] theorem rnC_g8 (c : XC) (σ : XS) (h : 8 < (rnC c σ).length) : (rnC c σ)[8] = .d (.sl (c.B.Tables.Things.map GThing.enc)) := rfl
@[simp] theorem rnC_g11 (c : XC) (σ : XS) (h : 11 < (rnC c σ).length) : (rnC c σ)[11] = .d (.sl (encI c.B.Tables.Funcs)) := rfl
@[simp] theorem rnC_g13 (c : XC) (σ : XS) (h : 13 < (rnC c σ).length) : (rnC c σ)[13] = .d (.sl (encI c.B.Tables.Params)) := rfl
@[simp] theorem rnC_g14 (c : XC) (σ : XS) (h : 14 < (rnC c σ).length) : (rnC c σ)[14] = .d (.sl (encI c.B.Tables.Locals)) := rfl
@[simp] theorem rnC_g15 (c : XC) (σ : XS) (h : 15 < (rnC c σ).length) : (rnC c σ)[15] = .d (.sl (encSl (List.map GStmt.enc) c.B.Routines)) := rfl
@[simp] theorem rnC_g16 (c : XC) (σ : XS) (h : 16 < (rnC c σ).length) : (rnC c σ)[16] = .d (.sl (encI σ.W.Globals)) := rfl
@[simp] theorem rnC_g22 (c : XC) (σ : XS) (h : 22 < (rnC c σ).length) : (rnC c σ)[22] = .d (.sl (encI σ.W.Timers)) := rfl
@[simp] theorem rnC_g24 (c : XC) (σ : XS) (h : 24 < (rnC c σ).length) : (rnC c σ)[24] = .d (.v (.int .i64 σ.W.Score)) := rfl
@[simp] theorem rnC_8 (c : XC) (σ : XS) : (rnC c σ)[8]? = some (.d (.sl (c.B.Tables.Things.map GThing.enc))) := rfl
@[simp] theorem rnC_11 (c : XC) (σ : XS) : (rnC c σ)[11]? = some (.d (.sl (encI c.B.Tables.Funcs))) := rfl
@[simp] theorem rnC_13 (c : XC) (σ : XS) : (rnC c σ)[13]? = some (.d (.sl (encI c.B.Tables.Params))) := rfl
@[simp] theorem rnC_14 (c : XC) (σ : XS) : (rnC c σ)[14]? = some (.d (.sl (encI c.B.Tables.Locals))) := rfl
@[simp] theorem rnC_15 (c : XC) (σ : XS) : (rnC c σ)[15]? = some (.d (.sl (encSl (List.map GStmt.enc) c.B.Routines))) := rfl
@[simp] theorem rnC_16 (c : XC) (σ : XS) : (rnC c σ)[16]? = some (.d (.sl (encI σ.W.Globals))) := rfl
@[simp] theorem rnC_22 (c : XC) (σ : XS) : (rnC c σ)[22]? = some (.d (.sl (encI σ.W.Timers))) := rfl
@[simp] theorem rnC_24 (c : XC) (σ : XS) : (rnC c σ)[24]? = some (.d (.v (.int .i64 σ.W.Score))) := rfl
@[simp] theorem rnC_T (c : XC) (σ : XS) : List.take 15 (rnC c σ) = c.B.Tables.enc.map V.d := rfl
@[simp] theorem rnC_B (c : XC) (σ : XS) : List.take 16 (rnC c σ) = c.B.enc.map V.d := rfl
@[simp] theorem rnC_W (c : XC) (σ : XS) : List.take 13 (List.drop 16 (rnC c σ)) = σ.W.enc.map V.d := rfl
@[simp] theorem rnC_E (c : XC) (σ : XS) : List.take 3 (List.drop 29 (rnC c σ)) = c.E.enc.map V.d := rfl
@[simp] theorem rnC_put35 (c : XC) (σ : XS) (n : Int) : List.take 35 (rnC c σ) ++ V.d (.v (.int .i64 n)) :: List.drop 36 (rnC c σ) = rnC c { σ with Fuel := n } := rfl
@[simp] theorem rnC_put36 (c : XC) (σ : XS) (n : Int) : List.take 36 (rnC c σ) ++ V.d (.v (.int .i64 n)) :: List.drop 37 (rnC c σ) = rnC c { σ with Dp := n } := rfl
@[simp] theorem rnC_put36' (c : XC) (σ : XS) (n : Int) : List.take 36 (rnC c σ) ++ [V.d (.v (.int .i64 n))] = rnC c { σ with Dp := n } := rfl
@[simp] theorem rnC_drop37 (c : XC) (σ : XS) : List.drop 37 (rnC c σ) = [] := rfl
@[simp] theorem rnC_put24 (c : XC) (σ : XS) (n : Int) : List.take 24 (rnC c σ) ++ V.d (.v (.int .i64 n)) :: List.drop 25 (rnC c σ) = rnC c { σ with W := { σ.W with Score := n } } := rfl
@[simp] theorem rnC_put26 (c : XC) (σ : XS) (n : Int) : List.take 26 (rnC c σ) ++ V.d (.v (.int .i64 n)) :: List.drop 27 (rnC c σ) = rnC c { σ with W := { σ.W with Over := n } } := rfl
@[simp] theorem rnC_put28 (c : XC) (σ : XS) (n : Int) : List.take 28 (rnC c σ) ++ V.d (.v (.int .i64 n)) :: List.drop 29 (rnC c σ) = rnC c { σ with W := { σ.W with Go := n } } := rfl
@[simp] theorem rnC_putW (c : XC) (σ : XS) (w : GWorld) : List.take 16 (rnC c σ) ++ (w.enc.map V.d ++ List.drop 29 (rnC c σ)) = rnC c { σ with W := w } := rfl
@[simp] theorem rnC_put32 (c : XC) (σ : XS) : List.take 32 (rnC c σ) ++ V.bp 5003 32 :: List.drop 33 (rnC c σ) = rnC c { σ with Wr := true } := rfl
@[simp] theorem adV_kill (h : Nat) (b : Bool) (hh : h ≠ 5003) : V.kill h (adV b) = adV b := by cases b <;> simp [adV, V.kill, Ne.symm hh]
@[simp] theorem rnC_kill (h : Nat) (c : XC) (σ : XS) (h1 : h ≠ 5003) (h2 : h ≠ 5004) : V.kills h (rnC c σ) = rnC c σ := by
  rw [kills_eq]
  simp only [rnC, List.map_append, ← kills_eq, kills_d]
  simp [V.kills, h1, h2, V.kill, Ne.symm h2]
theorem frzs_app (h : Nat) (y : V) (a b : List V) : V.frzs h y (a ++ b) = V.frzs h y a ++ V.frzs h y b := by simp [frzs_eq]
@[simp] theorem rnC_frz (h : Nat) (y : V) (c : XC) (σ : XS) (h1 : h ≠ 5003) (h2 : h ≠ 5004) : V.frzs h y (rnC c σ) = rnC c σ := by
  simp only [rnC, frzs_app, frzs_dmap]
  cases σ.Wr <;> simp [V.frzs, V.frz, adV, Ne.symm h1, Ne.symm h2]
@[simp] theorem lsC_frz (h : Nat) (y : V) (l : List Int) : V.frzs h y (lsC l) = lsC l := by
  rw [frzs_eq]; simp [lsC, V.frz]
@[simp] theorem rowU_frz (h : Nat) (y : V) (b : ByteArray) : (rowU b).map (V.frzs h y) = rowU b := by simp [rowU]
theorem rens_app (h g : Nat) (a b : List V) : V.rens h g (a ++ b) = V.rens h g a ++ V.rens h g b := by simp [rens_eq]
@[simp] theorem rnC_ren (h g : Nat) (c : XC) (σ : XS) (h1 : h ≠ 5003) (h2 : h ≠ 5004) : V.rens h g (rnC c σ) = rnC c σ := by
  simp only [rnC, rens_app, rens_d]
  cases σ.Wr <;> simp [V.rens, V.ren, adV, Ne.symm h1, Ne.symm h2]
@[simp] theorem lsC_ren (h g : Nat) (l : List Int) : V.rens h g (lsC l) = lsC l := by
  rw [rens_eq]; simp [lsC, V.ren]
@[simp] theorem rowU_ren (h g : Nat) (b : ByteArray) : (rowU b).map (V.rens h g) = rowU b := by simp [rowU]
theorem ons_app (ks : List Nat) : ∀ (a b : List V), V.ons ks (a ++ b) = (V.ons ks a && V.ons ks b)
  | [], b => by simp [V.ons]
  | x :: a, b => by simp [V.ons, ons_app ks a b, Bool.and_assoc]
@[simp] theorem rnC_on (ks : List Nat) (c : XC) (σ : XS) : V.ons ks (rnC c σ) = ((!σ.Wr || ks.contains 5003) && ks.contains 5004) := by
  simp only [rnC, ons_app, ons_d]
  cases σ.Wr <;> simp [V.ons, V.on, adV]
@[simp] theorem lsC_len (l : List Int) : (lsC l).length = l.length := by simp [lsC]
@[simp] theorem lsC_get (l : List Int) (i : Nat) : (lsC l)[i]? = l[i]?.map fun n => .d (.v (.int .i64 n)) := by simp [lsC]
@[simp] theorem lsC_kill (h : Nat) (l : List Int) : V.kills h (lsC l) = lsC l := by
  rw [kills_eq]; simp [lsC, V.kill]
@[simp] theorem lsC_on (ks : List Nat) : ∀ l : List Int, V.ons ks (lsC l) = true
  | [] => rfl
  | x :: l => by simpa [lsC, V.ons, V.on] using lsC_on ks l
theorem lsC_put (l : List Int) (i : Nat) (n : Int) (h : i < l.length) : List.take i (lsC l) ++ V.d (.v (.int .i64 n)) :: List.drop (i + 1) (lsC l) = lsC (l.set i n) := by
  simp only [lsC, ← List.map_take, ← List.map_drop, List.set_eq_take_append_cons_drop, h, if_true, List.map_append, List.map_cons]
inductive OC where
  | nrm (n : Int)
  | ret (n : Int)
  | thr (e : Int)
  | over
def ocS : OC → AE
  | .nrm _ => .ret (.tup [])
  | .ret n => .pan (retdV n)
  | .thr e => .pan (thrownV e)
  | .over => .pan overV
def ocE : OC → AE
  | .nrm n => .ret (.d (.v (.int .i64 n)))
  | .ret n => .pan (retdV n)
  | .thr e => .pan (thrownV e)
  | .over => .pan overV
@[simp] theorem retdV_on (ks : List Nat) (n : Int) : V.on ks (retdV n) = true := rfl
@[simp] theorem thrownV_on (ks : List Nat) (n : Int) : V.on ks (thrownV n) = true := rfl
@[simp] theorem overV_on (ks : List Nat) : V.on ks overV = true := rfl
def ruL (rb : Nat) (c : XC) (σ : XS) : Heap := [(5003, .box (rb + 1) 86 (rnC c σ)), (5004, .row 5 1 (rowU σ.Out))]
def exL (fb lb rb : Nat) (c : XC) (σ : XS) : Heap := [(5001, .box (fb + 1) 155 [.bp 5003 0, .sv 5002 σ.Ls.length]), (5002, .box (lb + 1) 3 (lsC σ.Ls)), (5003, .box (rb + 1) 86 (rnC c σ)), (5004, .row 5 1 (rowU σ.Out))]
def costX (c : XC) (σ : XS) : Option (XS × OC) := if 0 ≤ σ.Fuel ∧ σ.Fuel ≤ 1099511627776 then if c.M < σ.Fuel + 1 then some (σ, .thr 19) else some ({ σ with Fuel := σ.Fuel + 1 }, .nrm 0) else none
theorem must0_ok : Pure Tryz.prog 86 [.d (.v (.int .i64 0))] (.tup []) := by
  refine Pure.run Tryz.func86 rfl (by simp [Tryz.f86]) ?_; simp [-cB, Tryz.f86]
theorem mustE_ok {e : Int} (h : e ≠ 0) : ACalls Tryz.prog 86 [.d (.v (.int .i64 e))] [] (fun r L => r = .pan (thrownV e) ∧ L = []) :=
  (must_ok e).mono fun r L h1 => ⟨by rw [h1.2, if_neg h], h1.1⟩
theorem cost_ok {c : XC} {σ σ' : XS} {o : OC} (h : costX c σ = some (σ', o)) (rb : Nat) : ACalls Tryz.prog 195 [.bp 5003 0] (ruL rb c σ) (fun r L => r = ocS o ∧ L = ruL rb c σ') := by
  unfold costX at h
  split at h
  · rename_i hb
    have hF : inR .i64 (σ.Fuel + 1) := by rw [inR_i64]; omega
    split at h
    · rename_i h1
      simp only [Option.some.injEq, Prod.mk.injEq] at h
      obtain ⟨rfl, rfl⟩ := h
      unfold ruL
      refine ACalls.runX [] [5003, 5004] Tryz.func195 rfl (by simp [Tryz.f195]) ?_; simp [-cB, Tryz.f195]
      refine AWP.regionD [] Tryz.mixed (by kernel_rfl) (by rfl) ?_
      simp [-cB, h1, hF]
      refine AOps.effPan [] rfl (mustE_ok (e := 19) (by decide)) (by simp) rfl (by simp) (by kernel_rfl) (by first | rfl | simp) (by simp) (by simp) (by simp) ?_
      simp [ocS, thrownV]
    · rename_i h1
      simp only [Option.some.injEq, Prod.mk.injEq] at h
      obtain ⟨rfl, rfl⟩ := h
      unfold ruL
      refine ACalls.runX [] [5003, 5004] Tryz.func195 rfl (by simp [Tryz.f195]) ?_; simp [-cB, Tryz.f195]
      refine AWP.regionD [] Tryz.mixed (by kernel_rfl) (by rfl) ?_
      simp [-cB, h1, hF]
      simp [ocS]
  · cases h
end Go.Ab

namespace Go.Ab
open Go.Proofs
theorem kidsM_len (t : Tree) (x : Int) : (kidsM t x).length ≤ t.Par.length := by
  unfold kidsM
  split
  · exact chainM_len _ _ _ _
  · simp
theorem getD_atI (l : List Int) (x : Int) (h : 0 ≤ x) : l[x.toNat]?.getD 0 = atI l x := by rw [atI, if_neg (by omega)]
theorem elem_atI (l : List Int) (x : Int) (h : 0 ≤ x) (h2 : x.toNat < l.length) : l[x.toNat] = atI l x := by
  rw [atI, if_neg (by omega), List.getElem?_eq_getElem h2]; rfl
def listedP (t : Tree) (x : Int) (L : List Int) (y : Int) : Bool := decide (atI t.Par y = x) && decide (L.count y = 1)
theorem listedB_eq (t : Tree) (x : Int) : listedB t x = ((kidsM t x).all (listedP t x (kidsM t x)) && decide ((match (kidsM t x).getLast? with | some y => atI t.Nxt y | none => atI t.Chi x) = 0)) := rfl
theorem refListed_ok (w : GWorld) (hw : w.wf) (hc : w.Child.length = w.Parent.length) (hn : w.Next.length = w.Parent.length) (x : Int) (hx : 1 ≤ x ∧ x < w.Parent.length) :
    Pure Tryz.prog 77 [.agg (w.enc.map .d), .d (.v (.int .i64 x))] (.d (.v (.bool (listedB w.tree x)))) := by
  have hl := GWorld.wl_Parent hw
  have e1 : w.tree.Par = w.Parent := rfl
  have e2 : w.tree.Chi = w.Child := rfl
  have e3 : w.tree.Nxt = w.Next := rfl
  have hc1 := refChildren_ok w hw x
  have hk := fun y => kidsM_mem (t := w.tree) (x := x) (y := y)
  have hkl := kidsM_len w.tree x
  rw [e1] at hkl hk
  rw [listedB_eq, e2, e3]
  generalize kidsM w.tree x = L at *
  have hcount := fun y => (refCount_ok L (by omega) y).ok
  have hgx := getD_atI w.Child x (by omega)
  have hgx2 := elem_atI w.Child x (by omega) (by omega)
  refine Pure.run Tryz.func77 rfl (by simp [Tryz.f77]) ?_; simp [-cB, Tryz.f77]
  try intro (_ : Nat → Nat)
  repeat' (first
    | (with_reducible refine And.intro ?_ ?_)
    | (refine condC_split (fun h => ?_) (fun h => ?_) <;> (try simp at h) <;> (try simp [-cB, *]))
    | (refine AOps.pureC rfl (hc1) rfl rfl (by simp) rfl ?_ <;> (try simp [-cB, *]))
    | (refine AOps.lendC rfl (hc1) rfl (by simp) rfl rfl (by simp) rfl ?_ <;> (try simp [-cB, *]))
    | (refine AOps.pureG rfl (fun h => hc1) rfl (by first | rfl | (simp; rfl)) (by simp) (by simp) rfl ?_ <;> (try simp [-cB, *]))
    | (with_reducible intro _))
  clear hc1
  refine AWP.loopL [1, 2, 5, 6] L (fun pre => [(6, .d (.v (.int .i64 pre.length)))]) (fun _ => []) (fun pre => pre.all (listedP w.tree x L) = true) (by rfl) (by omega) (by simp) ?_ ?_
  · rintro pre y post hsp hH hlt hge a4
    have hy := hk y (by rw [hsp]; simp)
    have hall : L.all (listedP w.tree x L) = (listedP w.tree x L y && post.all (listedP w.tree x L)) := by
      have : (pre ++ y :: post).all (listedP w.tree x L) = (listedP w.tree x L y && post.all (listedP w.tree x L)) := by
        rw [List.all_append, hH, List.all_cons, Bool.true_and]
      rw [← hsp] at this
      exact this
    have hgy := getD_atI w.Parent y (by omega)
    have hgy2 := elem_atI w.Parent y (by omega) (by omega)
    have hpre : (pre ++ [y]).all (listedP w.tree x L) = listedP w.tree x L y := by rw [List.all_append, hH]; simp
    have hp : listedP w.tree x L y = (decide (atI w.Parent y = x) && decide (L.count y = 1)) := rfl
    have hcond : (!decide (atI w.Parent y = x) || ((L.count y : Int) != 1)) = !listedP w.tree x L y := by
      rw [hp, Bool.eq_iff_iff]
      simp
      omega
    clear hsp
    simp [-cB, hlt, hge]
    refine AWP.regionD [.d (.v (.int .i64 (L.count y)))] Tryz.mixed (by kernel_rfl) (by rfl) ?_
    simp [-cB, hlt, hge, hgy, hgy2, hcount y]
    simp only [hcond]
    have hH' : ∀ z ∈ pre, listedP w.tree x L z = true := List.all_eq_true.1 hH
    refine ⟨by omega, ?_⟩
    cases hb : listedP w.tree x L y with
    | false => simp [hall, hb]
    | true =>
      simp [hb, a4]
      rintro z (hz | rfl)
      · exact hH' z hz
      · exact hb
  · intro hH
    cases hL : L.getLast? with
    | none =>
      have : L = [] := List.getLast?_eq_none_iff.1 hL
      subst this
      simp [-cB, hgx, hgx2]
      omega
    | some y =>
      have hne : L ≠ [] := by rintro rfl; cases hL
      have hpos : 0 < L.length := List.length_pos_iff.2 hne
      have hyL : y ∈ L := List.mem_of_getLast? hL
      have hy := hk y hyL
      have hgy := getD_atI w.Next y (by omega)
      have hgy2 := elem_atI w.Next y (by omega) (by omega)
      have hlast : L[L.length - 1]? = some y := by rw [← hL, List.getLast?_eq_getElem?]
      have hlast2 : L[L.length - 1]'(by omega) = y := (List.getElem?_eq_some_iff.1 hlast).2
      have hnat : ((L.length : Int) - 1).toNat = L.length - 1 := by omega
      simp [-cB, hgx, hgx2, hpos]
      refine ⟨by omega, ?_⟩
      refine AWP.regionD [] Tryz.mixed (by kernel_rfl) (by rfl) ?_
      simp [-cB, hnat, hlast, hlast2, hgy, hgy2, hH]
      exact ⟨by rw [inR_i64]; omega, by omega, by omega, by omega⟩
def nodeB (t : Tree) (x : Int) : Bool :=
  !(decide (atI t.Par x ≠ 0) && !isT t.Par.length (atI t.Par x)) && !(decide (atI t.Par x = 0) && decide (atI t.Nxt x ≠ 0)) && listedB t x &&
    !(decide (atI t.Par x ≠ 0) && decide ((kidsM t (atI t.Par x)).count x ≠ 1)) && !(isT t.Par.length (atI t.Par x) && decide (x ∈ upsM t (atI t.Par x)))
def nestedB (t : Tree) : Bool :=
  decide (t.Par.length ≠ 0) && decide (t.Chi.length = t.Par.length) && decide (t.Nxt.length = t.Par.length) && decide (atI t.Par 0 = 0) && decide (atI t.Chi 0 = 0) && decide (atI t.Nxt 0 = 0) &&
    (List.range (t.Par.length - 1)).all fun k => nodeB t (k + 1)
set_option maxRecDepth 20000 in
set_option maxHeartbeats 4000000 in
theorem refNested_ok (w : GWorld) (hw : w.wf) : Pure Tryz.prog 27 [.agg (w.enc.map .d)] (.d (.v (.bool (nestedB w.tree)))) := by
  have hl := GWorld.wl_Parent hw
  have e1 : w.tree.Par = w.Parent := rfl
  have e2 : w.tree.Chi = w.Child := rfl
  have e3 : w.tree.Nxt = w.Next := rfl
  unfold nestedB
  rw [e1, e2, e3]
  have g1 := getD_atI w.Parent 0 (by omega)
  have g2 := getD_atI w.Child 0 (by omega)
  have g3 := getD_atI w.Next 0 (by omega)
  simp at g1 g2 g3
  by_cases h1 : w.Parent.length = 0
  · refine Pure.run Tryz.func27 rfl (by simp [Tryz.f27]) ?_; simp [-cB, Tryz.f27, h1]
  have h1' : w.Parent ≠ [] := fun h => h1 (by simp [h])
  by_cases h2 : ¬ w.Child.length = w.Parent.length
  · have h2' : ¬ ((w.Child.length : Int) = w.Parent.length) := by omega
    refine Pure.run Tryz.func27 rfl (by simp [Tryz.f27]) ?_; simp [-cB, Tryz.f27, h1, h1', h2, h2']
  have h2 := Decidable.not_not.1 h2
  by_cases h3 : ¬ w.Next.length = w.Parent.length
  · have h3' : ¬ ((w.Next.length : Int) = w.Parent.length) := by omega
    refine Pure.run Tryz.func27 rfl (by simp [Tryz.f27]) ?_; simp [-cB, Tryz.f27, h1, h1', h2, h3, h3']
  have h3 := Decidable.not_not.1 h3
  have q1 := elem_atI w.Parent 0 (by omega) (by simp; omega)
  have q2 := elem_atI w.Child 0 (by omega) (by simp; omega)
  have q3 := elem_atI w.Next 0 (by omega) (by simp; omega)
  have hpos : 0 < w.Parent.length := by omega
  simp at q1 q2 q3
  by_cases z1 : ¬ atI w.Parent 0 = 0
  · refine Pure.run Tryz.func27 rfl (by simp [Tryz.f27]) ?_; simp [-cB, Tryz.f27, h1, h1', h2, h3, g1, g2, g3, q1, q2, q3, hpos, z1]
  have z1 := Decidable.not_not.1 z1
  by_cases z2 : ¬ atI w.Child 0 = 0
  · refine Pure.run Tryz.func27 rfl (by simp [Tryz.f27]) ?_; simp [-cB, Tryz.f27, h1, h1', h2, h3, g1, g2, g3, q1, q2, q3, hpos, z1, z2]
  have z2 := Decidable.not_not.1 z2
  by_cases z3 : ¬ atI w.Next 0 = 0
  · have z3' : (atI w.Next 0 != 0) = true := by simpa using z3
    refine Pure.run Tryz.func27 rfl (by simp [Tryz.f27]) ?_; simp [-cB, Tryz.f27, h1, h1', h2, h3, g1, g2, g3, q1, q2, q3, hpos, z1, z2, z3, z3']
  have z3 := Decidable.not_not.1 z3
  simp only [h1, h2, h3, z1, z2, z3, ne_eq, not_false_eq_true, decide_true, Bool.true_and]
  generalize hres : ((List.range (w.Parent.length - 1)).all fun k => nodeB w.tree ((k : Int) + 1)) = res
  refine Pure.run Tryz.func27 rfl (by simp [Tryz.f27]) ?_; simp [-cB, Tryz.f27, h1, h1', h2, h3, g1, g2, g3, q1, q2, q3, hpos, z1, z2, z3]
  intro bs
  refine AWP.loopS [1, 3, 4] (w.Parent.length - 1) (fun i => [(4, .d (.v (.int .i64 (i + 1))))]) (fun _ => []) (fun i => ∀ k < i, nodeB w.tree (k + 1) = true) (by rfl) (by simp) ?_
  intro i hi hH
  rcases Nat.lt_or_eq_of_le hi with hlt | hie
  · have a4 : inR .i64 ((i : Int) + 1 + 1) := by rw [inR_i64]; omega
    have hx : 1 ≤ (i : Int) + 1 ∧ (i : Int) + 1 < w.Parent.length := by omega
    have hlt' : (i : Int) + 1 < w.Parent.length := by omega
    have gx1 := getD_atI w.Parent ((i : Int) + 1) (by omega)
    have gx3 := getD_atI w.Next ((i : Int) + 1) (by omega)
    have ex1 := elem_atI w.Parent ((i : Int) + 1) (by omega) (by omega)
    have ex3 := elem_atI w.Next ((i : Int) + 1) (by omega) (by omega)
    have hto : ((i : Int) + 1).toNat = i + 1 := by omega
    simp only [hto] at gx1 gx3 ex1 ex3
    have hnode : nodeB w.tree ((i : Int) + 1) = false → res = false := fun h => by
      rw [← hres, List.all_eq_false]
      exact ⟨i, List.mem_range.2 hlt, by simp [h]⟩
    have hgo : nodeB w.tree ((i : Int) + 1) = true → ∀ k < i + 1, nodeB w.tree ((k : Int) + 1) = true := fun h k hk => by
      rcases Nat.lt_or_ge k i with h2 | h2
      · exact hH k h2
      · rw [show k = i by omega]; exact h
    have hN : nodeB w.tree ((i : Int) + 1) = (!(decide (atI w.Parent ((i : Int) + 1) ≠ 0) && !isT w.Parent.length (atI w.Parent ((i : Int) + 1))) && !(decide (atI w.Parent ((i : Int) + 1) = 0) && decide (atI w.Next ((i : Int) + 1) ≠ 0)) && listedB w.tree ((i : Int) + 1) &&
      !(decide (atI w.Parent ((i : Int) + 1) ≠ 0) && decide ((kidsM w.tree (atI w.Parent ((i : Int) + 1))).count ((i : Int) + 1) ≠ 1)) && !(isT w.Parent.length (atI w.Parent ((i : Int) + 1)) && decide (((i : Int) + 1) ∈ upsM w.tree (atI w.Parent ((i : Int) + 1))))) := rfl
    have hcl := refListed_ok w hw h2 h3 ((i : Int) + 1) hx
    have hck := fun p => refChildren_ok w hw p
    have hkl := fun p => kidsM_len w.tree p
    rw [e1] at hkl
    have hcc := fun p => refCount_ok (kidsM w.tree p) (by have := hkl p; omega) ((i : Int) + 1)
    have hci := fun p => refIsW_ok w p
    have hcw := fun p => refwithin_ok w hw p ((i : Int) + 1)
    simp [-cB, hlt', gx1, gx3, ex1, ex3, h2, h3]
    generalize atI w.Parent ((i : Int) + 1) = p at *
    generalize atI w.Next ((i : Int) + 1) = nx at *
    have hck' := hck p
    have hcc' := hcc p
    have hci' := hci p
    have hcw' := hcw p
    generalize listedB w.tree ((i : Int) + 1) = lb at *
    generalize kidsM w.tree p = kd at *
    generalize isT w.Parent.length p = ip at *
    generalize decide (((i : Int) + 1) ∈ upsM w.tree p) = up at *
    generalize nodeB w.tree ((i : Int) + 1) = nb at *
    clear hres hck hkl hcc hci hcw h1' g1 g2 g3 q1 q2 q3 z1 z2 z3
    by_cases hp0 : p = 0 <;> by_cases hnx : nx = 0
    all_goals refine ⟨by omega, ?_⟩
    all_goals try simp [-cB, hp0, hnx]
    all_goals try rw [hp0] at hci'
    all_goals try rw [hp0] at hcw'
    all_goals try rw [hp0] at hck'
    all_goals try rw [hp0] at gx1 ex1
    all_goals try rw [hnx] at gx3 ex3
    · skip
      repeat' (first
        | (with_reducible refine And.intro ?_ ?_)
        | (refine condC_split (fun h => ?_) (fun h => ?_) <;> (try simp at h) <;> (try simp [-cB, h, hp0, hnx, a4, hlt, gx1, gx3, ex1, ex3, h2, h3]))
        | (refine AOps.pureC rfl (hci') rfl rfl (by simp) rfl ?_ <;> (try simp [-cB, hp0, hnx, a4, hlt, gx1, gx3, ex1, ex3, h2, h3]))
        | (refine AOps.pureC rfl (hcl) rfl rfl (by simp) rfl ?_ <;> (try simp [-cB, hp0, hnx, a4, hlt, gx1, gx3, ex1, ex3, h2, h3]))
        | (refine AOps.pureC rfl (hck') rfl rfl (by simp) rfl ?_ <;> (try simp [-cB, hp0, hnx, a4, hlt, gx1, gx3, ex1, ex3, h2, h3]))
        | (refine AOps.pureC rfl (hcc') rfl rfl (by simp) rfl ?_ <;> (try simp [-cB, hp0, hnx, a4, hlt, gx1, gx3, ex1, ex3, h2, h3]))
        | (refine AOps.pureC rfl (hcw') rfl rfl (by simp) rfl ?_ <;> (try simp [-cB, hp0, hnx, a4, hlt, gx1, gx3, ex1, ex3, h2, h3]))
        | (refine AOps.lendC rfl (hci') rfl (by simp) rfl rfl (by simp) rfl ?_ <;> (try simp [-cB, hp0, hnx, a4, hlt, gx1, gx3, ex1, ex3, h2, h3]))
        | (refine AOps.lendC rfl (hcl) rfl (by simp) rfl rfl (by simp) rfl ?_ <;> (try simp [-cB, hp0, hnx, a4, hlt, gx1, gx3, ex1, ex3, h2, h3]))
        | (refine AOps.lendC rfl (hck') rfl (by simp) rfl rfl (by simp) rfl ?_ <;> (try simp [-cB, hp0, hnx, a4, hlt, gx1, gx3, ex1, ex3, h2, h3]))
        | (refine AOps.lendC rfl (hcc') rfl (by simp) rfl rfl (by simp) rfl ?_ <;> (try simp [-cB, hp0, hnx, a4, hlt, gx1, gx3, ex1, ex3, h2, h3]))
        | (refine AOps.lendC rfl (hcw') rfl (by simp) rfl rfl (by simp) rfl ?_ <;> (try simp [-cB, hp0, hnx, a4, hlt, gx1, gx3, ex1, ex3, h2, h3]))
        | (refine AOps.pureG rfl (fun h => hci') rfl (by first | rfl | (simp; rfl)) (by simp) (by simp) rfl ?_ <;> (try simp [-cB, hp0, hnx, a4, hlt, gx1, gx3, ex1, ex3, h2, h3]))
        | (refine AOps.pureG rfl (fun h => hcl) rfl (by first | rfl | (simp; rfl)) (by simp) (by simp) rfl ?_ <;> (try simp [-cB, hp0, hnx, a4, hlt, gx1, gx3, ex1, ex3, h2, h3]))
        | (refine AOps.pureG rfl (fun h => hck') rfl (by first | rfl | (simp; rfl)) (by simp) (by simp) rfl ?_ <;> (try simp [-cB, hp0, hnx, a4, hlt, gx1, gx3, ex1, ex3, h2, h3]))
        | (refine AOps.pureG rfl (fun h => hcc') rfl (by first | rfl | (simp; rfl)) (by simp) (by simp) rfl ?_ <;> (try simp [-cB, hp0, hnx, a4, hlt, gx1, gx3, ex1, ex3, h2, h3]))
        | (refine AOps.pureG rfl (fun h => hcw') rfl (by first | rfl | (simp; rfl)) (by simp) (by simp) rfl ?_ <;> (try simp [-cB, hp0, hnx, a4, hlt, gx1, gx3, ex1, ex3, h2, h3]))
        | (with_reducible intro _))
      all_goals clear hci' hcl hck' hcc' hcw' gx1 gx3 ex1 ex3
      all_goals first | assumption | omega | (refine hnode ?_; rw [hN]; clear hN hnode hgo hH; cases ip <;> cases lb <;> cases up <;> simp_all <;> omega) | (refine hgo ?_ _ (by assumption); rw [hN]; clear hN hnode hgo hH; cases ip <;> cases lb <;> cases up <;> simp_all <;> omega) | skip
    · skip
      repeat' (first
        | (with_reducible refine And.intro ?_ ?_)
        | (refine condC_split (fun h => ?_) (fun h => ?_) <;> (try simp at h) <;> (try simp [-cB, h, hp0, hnx, a4, hlt, gx1, gx3, ex1, ex3, h2, h3]))
        | (refine AOps.pureC rfl (hci') rfl rfl (by simp) rfl ?_ <;> (try simp [-cB, hp0, hnx, a4, hlt, gx1, gx3, ex1, ex3, h2, h3]))
        | (refine AOps.pureC rfl (hcl) rfl rfl (by simp) rfl ?_ <;> (try simp [-cB, hp0, hnx, a4, hlt, gx1, gx3, ex1, ex3, h2, h3]))
        | (refine AOps.pureC rfl (hck') rfl rfl (by simp) rfl ?_ <;> (try simp [-cB, hp0, hnx, a4, hlt, gx1, gx3, ex1, ex3, h2, h3]))
        | (refine AOps.pureC rfl (hcc') rfl rfl (by simp) rfl ?_ <;> (try simp [-cB, hp0, hnx, a4, hlt, gx1, gx3, ex1, ex3, h2, h3]))
        | (refine AOps.pureC rfl (hcw') rfl rfl (by simp) rfl ?_ <;> (try simp [-cB, hp0, hnx, a4, hlt, gx1, gx3, ex1, ex3, h2, h3]))
        | (refine AOps.lendC rfl (hci') rfl (by simp) rfl rfl (by simp) rfl ?_ <;> (try simp [-cB, hp0, hnx, a4, hlt, gx1, gx3, ex1, ex3, h2, h3]))
        | (refine AOps.lendC rfl (hcl) rfl (by simp) rfl rfl (by simp) rfl ?_ <;> (try simp [-cB, hp0, hnx, a4, hlt, gx1, gx3, ex1, ex3, h2, h3]))
        | (refine AOps.lendC rfl (hck') rfl (by simp) rfl rfl (by simp) rfl ?_ <;> (try simp [-cB, hp0, hnx, a4, hlt, gx1, gx3, ex1, ex3, h2, h3]))
        | (refine AOps.lendC rfl (hcc') rfl (by simp) rfl rfl (by simp) rfl ?_ <;> (try simp [-cB, hp0, hnx, a4, hlt, gx1, gx3, ex1, ex3, h2, h3]))
        | (refine AOps.lendC rfl (hcw') rfl (by simp) rfl rfl (by simp) rfl ?_ <;> (try simp [-cB, hp0, hnx, a4, hlt, gx1, gx3, ex1, ex3, h2, h3]))
        | (refine AOps.pureG rfl (fun h => hci') rfl (by first | rfl | (simp; rfl)) (by simp) (by simp) rfl ?_ <;> (try simp [-cB, hp0, hnx, a4, hlt, gx1, gx3, ex1, ex3, h2, h3]))
        | (refine AOps.pureG rfl (fun h => hcl) rfl (by first | rfl | (simp; rfl)) (by simp) (by simp) rfl ?_ <;> (try simp [-cB, hp0, hnx, a4, hlt, gx1, gx3, ex1, ex3, h2, h3]))
        | (refine AOps.pureG rfl (fun h => hck') rfl (by first | rfl | (simp; rfl)) (by simp) (by simp) rfl ?_ <;> (try simp [-cB, hp0, hnx, a4, hlt, gx1, gx3, ex1, ex3, h2, h3]))
        | (refine AOps.pureG rfl (fun h => hcc') rfl (by first | rfl | (simp; rfl)) (by simp) (by simp) rfl ?_ <;> (try simp [-cB, hp0, hnx, a4, hlt, gx1, gx3, ex1, ex3, h2, h3]))
        | (refine AOps.pureG rfl (fun h => hcw') rfl (by first | rfl | (simp; rfl)) (by simp) (by simp) rfl ?_ <;> (try simp [-cB, hp0, hnx, a4, hlt, gx1, gx3, ex1, ex3, h2, h3]))
        | (with_reducible intro _))
      all_goals clear hci' hcl hck' hcc' hcw' gx1 gx3 ex1 ex3
      all_goals first | assumption | omega | (refine hnode ?_; rw [hN]; clear hN hnode hgo hH; cases ip <;> cases lb <;> cases up <;> simp_all <;> omega) | (refine hgo ?_ _ (by assumption); rw [hN]; clear hN hnode hgo hH; cases ip <;> cases lb <;> cases up <;> simp_all <;> omega) | skip
    · skip
      repeat' (first
        | (with_reducible refine And.intro ?_ ?_)
        | (refine condC_split (fun h => ?_) (fun h => ?_) <;> (try simp at h) <;> (try simp [-cB, h, hp0, hnx, a4, hlt, gx1, gx3, ex1, ex3, h2, h3]))
        | (refine AOps.pureC rfl (hci') rfl rfl (by simp) rfl ?_ <;> (try simp [-cB, hp0, hnx, a4, hlt, gx1, gx3, ex1, ex3, h2, h3]))
        | (refine AOps.pureC rfl (hcl) rfl rfl (by simp) rfl ?_ <;> (try simp [-cB, hp0, hnx, a4, hlt, gx1, gx3, ex1, ex3, h2, h3]))
        | (refine AOps.pureC rfl (hck') rfl rfl (by simp) rfl ?_ <;> (try simp [-cB, hp0, hnx, a4, hlt, gx1, gx3, ex1, ex3, h2, h3]))
        | (refine AOps.pureC rfl (hcc') rfl rfl (by simp) rfl ?_ <;> (try simp [-cB, hp0, hnx, a4, hlt, gx1, gx3, ex1, ex3, h2, h3]))
        | (refine AOps.pureC rfl (hcw') rfl rfl (by simp) rfl ?_ <;> (try simp [-cB, hp0, hnx, a4, hlt, gx1, gx3, ex1, ex3, h2, h3]))
        | (refine AOps.lendC rfl (hci') rfl (by simp) rfl rfl (by simp) rfl ?_ <;> (try simp [-cB, hp0, hnx, a4, hlt, gx1, gx3, ex1, ex3, h2, h3]))
        | (refine AOps.lendC rfl (hcl) rfl (by simp) rfl rfl (by simp) rfl ?_ <;> (try simp [-cB, hp0, hnx, a4, hlt, gx1, gx3, ex1, ex3, h2, h3]))
        | (refine AOps.lendC rfl (hck') rfl (by simp) rfl rfl (by simp) rfl ?_ <;> (try simp [-cB, hp0, hnx, a4, hlt, gx1, gx3, ex1, ex3, h2, h3]))
        | (refine AOps.lendC rfl (hcc') rfl (by simp) rfl rfl (by simp) rfl ?_ <;> (try simp [-cB, hp0, hnx, a4, hlt, gx1, gx3, ex1, ex3, h2, h3]))
        | (refine AOps.lendC rfl (hcw') rfl (by simp) rfl rfl (by simp) rfl ?_ <;> (try simp [-cB, hp0, hnx, a4, hlt, gx1, gx3, ex1, ex3, h2, h3]))
        | (refine AOps.pureG rfl (fun h => hci') rfl (by first | rfl | (simp; rfl)) (by simp) (by simp) rfl ?_ <;> (try simp [-cB, hp0, hnx, a4, hlt, gx1, gx3, ex1, ex3, h2, h3]))
        | (refine AOps.pureG rfl (fun h => hcl) rfl (by first | rfl | (simp; rfl)) (by simp) (by simp) rfl ?_ <;> (try simp [-cB, hp0, hnx, a4, hlt, gx1, gx3, ex1, ex3, h2, h3]))
        | (refine AOps.pureG rfl (fun h => hck') rfl (by first | rfl | (simp; rfl)) (by simp) (by simp) rfl ?_ <;> (try simp [-cB, hp0, hnx, a4, hlt, gx1, gx3, ex1, ex3, h2, h3]))
        | (refine AOps.pureG rfl (fun h => hcc') rfl (by first | rfl | (simp; rfl)) (by simp) (by simp) rfl ?_ <;> (try simp [-cB, hp0, hnx, a4, hlt, gx1, gx3, ex1, ex3, h2, h3]))
        | (refine AOps.pureG rfl (fun h => hcw') rfl (by first | rfl | (simp; rfl)) (by simp) (by simp) rfl ?_ <;> (try simp [-cB, hp0, hnx, a4, hlt, gx1, gx3, ex1, ex3, h2, h3]))
        | (with_reducible intro _))
      all_goals clear hci' hcl hck' hcc' hcw' gx1 gx3 ex1 ex3
      all_goals first | assumption | omega | (refine hnode ?_; rw [hN]; clear hN hnode hgo hH; cases ip <;> cases lb <;> cases up <;> simp_all <;> omega) | (refine hgo ?_ _ (by assumption); rw [hN]; clear hN hnode hgo hH; cases ip <;> cases lb <;> cases up <;> simp_all <;> omega) | skip
    · skip
      repeat' (first
        | (with_reducible refine And.intro ?_ ?_)
        | (refine condC_split (fun h => ?_) (fun h => ?_) <;> (try simp at h) <;> (try simp [-cB, h, hp0, hnx, a4, hlt, gx1, gx3, ex1, ex3, h2, h3]))
        | (refine AOps.pureC rfl (hci') rfl rfl (by simp) rfl ?_ <;> (try simp [-cB, hp0, hnx, a4, hlt, gx1, gx3, ex1, ex3, h2, h3]))
        | (refine AOps.pureC rfl (hcl) rfl rfl (by simp) rfl ?_ <;> (try simp [-cB, hp0, hnx, a4, hlt, gx1, gx3, ex1, ex3, h2, h3]))
        | (refine AOps.pureC rfl (hck') rfl rfl (by simp) rfl ?_ <;> (try simp [-cB, hp0, hnx, a4, hlt, gx1, gx3, ex1, ex3, h2, h3]))
        | (refine AOps.pureC rfl (hcc') rfl rfl (by simp) rfl ?_ <;> (try simp [-cB, hp0, hnx, a4, hlt, gx1, gx3, ex1, ex3, h2, h3]))
        | (refine AOps.pureC rfl (hcw') rfl rfl (by simp) rfl ?_ <;> (try simp [-cB, hp0, hnx, a4, hlt, gx1, gx3, ex1, ex3, h2, h3]))
        | (refine AOps.lendC rfl (hci') rfl (by simp) rfl rfl (by simp) rfl ?_ <;> (try simp [-cB, hp0, hnx, a4, hlt, gx1, gx3, ex1, ex3, h2, h3]))
        | (refine AOps.lendC rfl (hcl) rfl (by simp) rfl rfl (by simp) rfl ?_ <;> (try simp [-cB, hp0, hnx, a4, hlt, gx1, gx3, ex1, ex3, h2, h3]))
        | (refine AOps.lendC rfl (hck') rfl (by simp) rfl rfl (by simp) rfl ?_ <;> (try simp [-cB, hp0, hnx, a4, hlt, gx1, gx3, ex1, ex3, h2, h3]))
        | (refine AOps.lendC rfl (hcc') rfl (by simp) rfl rfl (by simp) rfl ?_ <;> (try simp [-cB, hp0, hnx, a4, hlt, gx1, gx3, ex1, ex3, h2, h3]))
        | (refine AOps.lendC rfl (hcw') rfl (by simp) rfl rfl (by simp) rfl ?_ <;> (try simp [-cB, hp0, hnx, a4, hlt, gx1, gx3, ex1, ex3, h2, h3]))
        | (refine AOps.pureG rfl (fun h => hci') rfl (by first | rfl | (simp; rfl)) (by simp) (by simp) rfl ?_ <;> (try simp [-cB, hp0, hnx, a4, hlt, gx1, gx3, ex1, ex3, h2, h3]))
        | (refine AOps.pureG rfl (fun h => hcl) rfl (by first | rfl | (simp; rfl)) (by simp) (by simp) rfl ?_ <;> (try simp [-cB, hp0, hnx, a4, hlt, gx1, gx3, ex1, ex3, h2, h3]))
        | (refine AOps.pureG rfl (fun h => hck') rfl (by first | rfl | (simp; rfl)) (by simp) (by simp) rfl ?_ <;> (try simp [-cB, hp0, hnx, a4, hlt, gx1, gx3, ex1, ex3, h2, h3]))
        | (refine AOps.pureG rfl (fun h => hcc') rfl (by first | rfl | (simp; rfl)) (by simp) (by simp) rfl ?_ <;> (try simp [-cB, hp0, hnx, a4, hlt, gx1, gx3, ex1, ex3, h2, h3]))
        | (refine AOps.pureG rfl (fun h => hcw') rfl (by first | rfl | (simp; rfl)) (by simp) (by simp) rfl ?_ <;> (try simp [-cB, hp0, hnx, a4, hlt, gx1, gx3, ex1, ex3, h2, h3]))
        | (with_reducible intro _))
      all_goals clear hci' hcl hck' hcc' hcw' gx1 gx3 ex1 ex3
      all_goals first | assumption | omega | (refine hnode ?_; rw [hN]; clear hN hnode hgo hH; cases ip <;> cases lb <;> cases up <;> simp_all <;> omega) | (refine hgo ?_ _ (by assumption); rw [hN]; clear hN hnode hgo hH; cases ip <;> cases lb <;> cases up <;> simp_all <;> omega) | skip
  · subst hie
    have hall : ∀ k, k < w.Parent.length - 1 → nodeB w.tree ((k : Int) + 1) = true := hH
    have hnl : ¬ (((w.Parent.length - 1 : Nat) : Int) + 1 < w.Parent.length) := by omega
    have hr : res = true := by rw [← hres, List.all_eq_true]; exact fun k hk => hall k (List.mem_range.1 hk)
    simp [-cB, hnl, hr]
end Go.Ab

namespace Go.Ab
open Go.Proofs
def prevB : Option GWay → GWay → Bool
  | none, _ => true
  | some p, w => decide (p.Dir < w.Dir)
def roomB (t : GTables) (n : Int) : Bool := (t.Things[n.toNat]?.getD GThing.zero).Room
def wayB (t : GTables) (prev : Option GWay) (w : GWay) : Bool :=
  fromB w.Dir 1 12 && prevB prev w && thingB t w.To && roomB t w.To && routB t w.When true && textB t w.Else true
def waysM (t : GTables) : Option GWay → List GWay → Bool
  | _, [] => true
  | p, w :: l => wayB t p w && waysM t (some w) l
def waysB (t : GTables) (l : List GWay) : Bool := waysM t none l
theorem waysM_app (t : GTables) (l r : List GWay) (p : Option GWay) : waysM t p (l ++ r) = (waysM t p l && waysM t (l.getLast?.or p) r) := by
  induction l generalizing p with
  | nil => simp [waysM]
  | cons w l ih =>
    rw [List.cons_append, waysM, waysM, ih, Bool.and_assoc]
    cases hl : l.getLast? with
    | none => have : l = [] := by simpa using hl
              subst this; simp
    | some q => simp [List.getLast?_cons, hl]
set_option maxRecDepth 20000 in
theorem refWays_ok (t : GTables) (ht : t.wf) (l : List GWay) (hl : l.length ≤ 1000000000000000) (hw : ∀ x ∈ l, x.wf) : Pure Tryz.prog 71 [.agg (t.enc.map .d), .d (.sl (l.map GWay.enc))] (.d (.v (.bool (waysB t l)))) := by
  have hlen : t.Things.length ≤ 2000000000000 := by have := ht; simp [GTables.wf] at this; omega
  unfold waysB
  refine Pure.run Tryz.func71 rfl (by simp [Tryz.f71]) ?_; simp [Tryz.f71]
  try intro (_ : Nat → Nat)
  refine AWP.loopL [1, 2, 5] l (fun pre => [(5, .d (.v (.int .i64 pre.length)))]) (fun _ => []) (fun pre => waysM t none pre = true) (by rfl) (by omega) (by simp [waysM]) ?_ ?_
  · rintro pre x post hsp hH hlt hge a4
    have hall : waysM t none l = (wayB t pre.getLast? x && waysM t (some x) post) := by
      rw [hsp, waysM_app, hH, waysM]; simp
    have hsn : waysM t none (pre ++ [x]) = wayB t pre.getLast? x := by rw [waysM_app, hH, waysM, waysM]; simp
    have hx := hw x (by rw [hsp]; simp)
    have hprev : ∀ i : Nat, i + 1 = pre.length → l[i]? = pre.getLast? := by
      intro i hi
      rw [hsp, List.getElem?_append_left (by omega), List.getLast?_eq_getElem?]
      congr 1; omega
    have hT : thingB t x.To = true → (1 ≤ x.To ∧ x.To.toNat < t.Things.length) := by
      intro h
      unfold thingB at h
      rw [fromB_iff] at h
      omega
    have hw1 : wayB t pre.getLast? x = (fromB x.Dir 1 12 && prevB pre.getLast? x && thingB t x.To && roomB t x.To && routB t x.When true && textB t x.Else true) := rfl
    rw [hw1] at hall hsn
    clear hw hsp
    simp [-cB, *, -hprev, -hT, -hall, -hsn]
    refine AWP.regionD [.d (.v (.bool (fromB x.Dir 1 12))), .d (.v (.bool (thingB t x.To))), .d (.v (.bool (routB t x.When true))), .d (.v (.bool (textB t x.Else true)))] Tryz.mixed (by kernel_rfl) (by rfl) ?_
    simp [-cB, *, -hprev, -hT, (refFrom_ok _ _ _).ok, (refThing_ok t ht _).ok, (refRoutine_ok t ht _ _).ok, (refText_ok t ht _ _).ok]
    have hP : (0 < pre.length → (l[pre.length - 1]?.getD GWay.zero).Dir < x.Dir) ↔ prevB pre.getLast? x = true := by
      cases hg : pre.getLast? with
      | none => have : pre = [] := by simpa using hg
                subst this; simp [prevB]
      | some p =>
        have hne : 0 < pre.length := by
          cases pre with
          | nil => simp at hg
          | cons _ _ => simp
        rw [hprev (pre.length - 1) (by omega), hg]
        simp [hne, prevB]
    have hR : (t.Things[x.To.toNat]?.getD GThing.zero).Room = roomB t x.To := rfl
    have hnl : pre = [] ↔ ¬ 0 < pre.length := by cases pre <;> simp
    rw [hR, hnl]
    generalize fromB x.Dir 1 12 = b1 at *
    generalize thingB t x.To = b2 at *
    generalize routB t x.When true = b3 at *
    generalize textB t x.Else true = b4 at *
    generalize waysM t (some x) post = b5 at *
    generalize roomB t x.To = b6 at *
    generalize prevB pre.getLast? x = b7 at *
    generalize (l[pre.length - 1]?.getD GWay.zero).Dir = d at *
    have hi : 0 < pre.length → inR IntKind.i64 ((pre.length : Int) - 1) := fun h => by rw [inR_i64]; omega
    rcases Nat.eq_zero_or_pos pre.length with hz | hz
    · have hb7 : b7 = true := hP.1 (fun h => by omega)
      clear hP hprev hnl
      cases b1 <;> simp [hz, hsn, hall, hb7, a4]
      cases b2 <;> simp
      obtain ⟨k1, k2⟩ := hT rfl
      cases b6 <;> simp [k2, show 0 ≤ x.To by omega]
      cases b3 <;> simp
      cases b4 <;> simp [a4, hsn, hall, hb7]
      rw [inR_i64]; omega
    · have hP' : d < x.Dir ↔ b7 = true := ⟨fun h => hP.1 (fun _ => h), fun h => hP.2 h hz⟩
      have hi' := hi hz
      clear hP hprev hnl hi
      have hle : 1 ≤ (pre.length : Int) ∧ pre.length - 1 < l.length := by omega
      cases b1 <;> simp [hz, hsn, hall, a4, hi', hle, hP']
      cases b7 <;> simp
      cases b2 <;> simp
      obtain ⟨k1, k2⟩ := hT rfl
      cases b6 <;> simp [k2, show 0 ≤ x.To by omega]
      cases b3 <;> simp
      cases b4 <;> simp [a4, hsn, hall]
      intro h
      have := hP'.2 rfl
      omega
  · intro hH
    simp [*]
def thingAt (t : GTables) (n : Int) : GThing := t.Things[n.toNat]?.getD GThing.zero
def parentsB (t : GTables) : Prop := ∀ x ∈ t.Things, 0 ≤ x.Parent ∧ x.Parent < t.Things.length
def endsM (t : GTables) : Nat → Int → Bool
  | 0, _ => false
  | k + 1, x => if x = 0 then true else endsM t k (thingAt t x).Parent
def endsB (t : GTables) (x : Int) : Bool := endsM t t.Things.length x
theorem thingAt_get {t : GTables} {n : Int} (h : 0 ≤ n ∧ n < t.Things.length) : t.Things[n.toNat]? = some (thingAt t n) := by
  unfold thingAt
  rw [List.getElem?_eq_getElem (by omega)]; simp
theorem thingAt_elem {t : GTables} {n : Int} (h : 0 ≤ n ∧ n < t.Things.length) : t.Things[n.toNat]'(by omega) = thingAt t n := by
  have := thingAt_get h
  rwa [List.getElem?_eq_getElem (by omega), Option.some.injEq] at this
theorem thingAt_mem {t : GTables} {n : Int} (h : 0 ≤ n ∧ n < t.Things.length) : thingAt t n ∈ t.Things := List.mem_of_getElem? (thingAt_get h)
def upN (t : GTables) : Nat → Int → Int
  | 0, x => x
  | k + 1, x => upN t k (thingAt t x).Parent
theorem upN_succ (t : GTables) (k : Nat) (x : Int) : upN t (k + 1) x = (thingAt t (upN t k x)).Parent := by
  induction k generalizing x with
  | zero => rfl
  | succ k ih => rw [upN, ih]; rfl
theorem upN_in {t : GTables} (hp : parentsB t) (k : Nat) (x : Int) (hx : 0 ≤ x ∧ x < t.Things.length) : 0 ≤ upN t k x ∧ upN t k x < t.Things.length := by
  induction k generalizing x with
  | zero => exact hx
  | succ k ih => exact ih _ (hp _ (thingAt_mem hx))
theorem endsM_up (t : GTables) : ∀ (i k : Nat) (x : Int), (∀ j < i, upN t j x ≠ 0) → endsM t (i + k) x = endsM t k (upN t i x)
  | 0, k, x, _ => by rw [Nat.zero_add]; rfl
  | i + 1, k, x, h => by
    rw [show i + 1 + k = (i + k) + 1 by omega, endsM, if_neg (show x ≠ 0 from h 0 (by omega)), upN, ← endsM_up t i k]
    exact fun j hj => h (j + 1) (by omega)
theorem refEnds_ok (t : GTables) (ht : t.wf) (hp : parentsB t) (x : Int) (hx : 0 ≤ x ∧ x < t.Things.length) : Pure Tryz.prog 72 [.agg (t.enc.map .d), .d (.v (.int .i64 x))] (.d (.v (.bool (endsB t x)))) := by
  have hlen : t.Things.length ≤ 2000000000000 := by have := ht; simp [GTables.wf] at this; omega
  refine Pure.run Tryz.func72 rfl (by simp [Tryz.f72]) ?_; simp [Tryz.f72]
  try intro (_ : Nat → Nat)
  refine AWP.loopS [1, 2, 5] t.Things.length (fun i => [(1, .d (.v (.int .i64 (upN t i x)))), (5, .d (.v (.int .i64 i)))]) (fun _ => []) (fun i => ∀ j < i, upN t j x ≠ 0) (by rfl) (by simp [upN]) ?_
  intro i hi hH
  have hu := upN_in hp i x hx
  have hs := upN_succ t i x
  have he := endsM_up t i (t.Things.length - i) x hH
  rw [show i + (t.Things.length - i) = t.Things.length by omega] at he
  have hget := thingAt_elem hu
  have hs' := hs.symm
  rcases Nat.lt_or_eq_of_le hi with hlt | rfl
  · have a4 : inR .i64 ((i : Int) + 1) := by rw [inR_i64]; omega
    unfold endsB
    rw [show t.Things.length - i = (t.Things.length - (i + 1)) + 1 by omega, endsM, ← hs] at he
    clear hs
    simp [-cB, *]
    repeat' (first
      | (with_reducible refine And.intro ?_ ?_)
      | (refine condC_split (fun h => ?_) (fun h => ?_) <;> (try simp at h) <;> (try simp [-cB, *]))
      | (refine AOps.pureC rfl (refRow_ok _) rfl rfl (by simp) rfl ?_ <;> (try simp [-cB, *]))
      | (refine AOps.lendC rfl (refRow_ok _) rfl (by simp) rfl rfl (by simp) rfl ?_ <;> (try simp [-cB, *]))
      | (refine AOps.pureG rfl (fun h => refRow_ok _) rfl (by first | rfl | (simp; rfl)) (by simp) (by simp) rfl ?_ <;> (try simp [-cB, *]))
      | (with_reducible intro _))
    all_goals (first | assumption | omega | (rw [inR_i64]; omega) | (simp_all; done) | grind | skip)
  · rw [Nat.sub_self] at he
    unfold endsB
    simp [he, endsM]
def roomM (t : GTables) : Nat → Int → Bool
  | 0, _ => false
  | k + 1, x => if thingB t x then (if roomB t x then true else roomM t k (thingAt t x).Parent) else false
def inRoomB (t : GTables) (x : Int) : Bool := roomM t t.Things.length x
theorem roomM_up (t : GTables) : ∀ (i k : Nat) (x : Int), (∀ j < i, thingB t (upN t j x) = true ∧ roomB t (upN t j x) = false) → roomM t (i + k) x = roomM t k (upN t i x)
  | 0, k, x, _ => by rw [Nat.zero_add]; rfl
  | i + 1, k, x, h => by
    have h0 : thingB t x = true ∧ roomB t x = false := h 0 (by omega)
    rw [show i + 1 + k = (i + k) + 1 by omega, roomM, if_pos h0.1, h0.2, if_neg (by simp), upN, ← roomM_up t i k]
    exact fun j hj => h (j + 1) (by omega)
theorem refRoom_ok (t : GTables) (ht : t.wf) (x : Int) : Pure Tryz.prog 73 [.agg (t.enc.map .d), .d (.v (.int .i64 x))] (.d (.v (.bool (inRoomB t x)))) := by
  have hlen : t.Things.length ≤ 2000000000000 := by have := ht; simp [GTables.wf] at this; omega
  refine Pure.run Tryz.func73 rfl (by simp [Tryz.f73]) ?_; simp [Tryz.f73]
  try intro (_ : Nat → Nat)
  refine AWP.loopS [1, 2, 5] t.Things.length (fun i => [(1, .d (.v (.int .i64 (upN t i x)))), (5, .d (.v (.int .i64 i)))]) (fun _ => []) (fun i => ∀ j < i, thingB t (upN t j x) = true ∧ roomB t (upN t j x) = false) (by rfl) (by simp [upN]) ?_
  intro i hi hH
  have hs' := (upN_succ t i x).symm
  have he := roomM_up t i (t.Things.length - i) x hH
  rw [show i + (t.Things.length - i) = t.Things.length by omega] at he
  unfold inRoomB
  have hT : thingB t (upN t i x) = true → 0 ≤ upN t i x ∧ upN t i x < t.Things.length := by
    unfold thingB; rw [fromB_iff]; omega
  have hR : (thingAt t (upN t i x)).Room = roomB t (upN t i x) := rfl
  rcases Nat.lt_or_eq_of_le hi with hlt | rfl
  · have a4 : inR .i64 ((i : Int) + 1) := by rw [inR_i64]; omega
    rw [show t.Things.length - i = (t.Things.length - (i + 1)) + 1 by omega, roomM, hs'] at he
    simp [-cB, *, -hT]
    refine AOps.pureG rfl (fun h => refThing_ok t ht _) rfl (by first | rfl | (simp; rfl)) (by simp) (by simp) rfl ?_
    generalize hb : thingB t (upN t i x) = b at *
    cases b with
    | false =>
      simp [-cB, he]
    | true =>
      have hu := hT rfl
      have hget := thingAt_elem hu
      simp [-cB, *]
      repeat' (first
        | (with_reducible refine And.intro ?_ ?_)
        | (refine condC_split (fun h => ?_) (fun h => ?_) <;> (try simp at h) <;> (try simp [-cB, *]))
        | (refine AOps.pureC rfl (refRow_ok _) rfl rfl (by simp) rfl ?_ <;> (try simp [-cB, *]))
        | (refine AOps.lendC rfl (refRow_ok _) rfl (by simp) rfl rfl (by simp) rfl ?_ <;> (try simp [-cB, *]))
        | (refine AOps.pureG rfl (fun h => refRow_ok _) rfl (by first | rfl | (simp; rfl)) (by simp) (by simp) rfl ?_ <;> (try simp [-cB, *]))
        | (with_reducible intro _))
      all_goals (first | assumption | omega | (rw [inR_i64]; omega) | (simp_all; done) | grind | skip)
  · rw [Nat.sub_self] at he
    simp [-cB, he, roomM]
    refine AOps.pureG rfl (fun h => refThing_ok t ht _) rfl (by first | rfl | (simp; rfl)) (by simp) (by simp) rfl ?_
    simp
end Go.Ab

namespace Go.Ab
open Go.Proofs
def thingOk (t : GTables) (x : GThing) : Bool :=
  textB t x.Title false && textB t x.Text true && fromB x.Flags 0 (bitsM t.Flags - 1) && decide (x.Props.length = t.Props.length) && allB int16 x.Props && wordsB x.Words 8 && wordsB x.Adjs 8 &&
  (decide (x.Parent = 0) || thingB t x.Parent) && (!x.Room || decide (x.Parent = 0)) && (x.Room || decide (x.Ways.length = 0)) && waysB t x.Ways
def thingsB (t : GTables) : Bool :=
  fromB t.Things.length 3 128 && nothingB t (thingAt t 0) && !(thingAt t 1).Room && allB (thingOk t) (t.Things.drop 1) && allB (fun (i : Nat) => endsB t ((i : Int) + 1)) (List.range (t.Things.length - 1)) && inRoomB t 1
theorem bitsM_le (n : Int) : 1 ≤ bitsM n ∧ bitsM n ≤ 65536 := by
  unfold bitsM
  generalize hm : min n.toNat 16 = i
  have h16 : i ≤ 16 := by omega
  have e : (2 : Int) ^ i = ((2 ^ i : Nat) : Int) := by simp
  have := Nat.pow_le_pow_right (n := 2) (by decide) h16
  have := Nat.pow_pos (a := 2) (n := i) (by decide)
  rw [e]; omega
set_option maxRecDepth 20000 in
theorem refThings_ok (t : GTables) (ht : t.wf) : Pure Tryz.prog 25 [.agg (t.enc.map .d)] (.d (.v (.bool (thingsB t)))) := by
  have hlen : t.Things.length ≤ 2000000000000 := by have := ht; simp [GTables.wf] at this; omega
  have hwf := GTables.wf_Things ht
  unfold thingsB
  refine Pure.run Tryz.func25 rfl (by simp [Tryz.f25]) ?_; simp [Tryz.f25]
  try intro (_ : Nat → Nat)
  refine AWP.regionD [.d (.v (.bool (fromB t.Things.length 3 128))), .d (.v (.bool (nothingB t (thingAt t 0))))] Tryz.mixed (by kernel_rfl) (by rfl) ?_
  have h0 : thingAt t 0 = t.Things[0]?.getD GThing.zero := rfl
  have hz : (thingAt t 0).wf := by
    rw [h0]
    cases h : t.Things[0]? with
    | none => simp [GThing.wf, GThing.zero, inR_i64]
    | some x => exact hwf x (List.mem_of_getElem? h)
  simp [-cB, (refFrom_ok _ _ _).ok, ← h0, (refNothing_ok t ht _ hz).ok]
  have hN : fromB t.Things.length 3 128 = true → 3 ≤ t.Things.length ∧ t.Things.length ≤ 128 := by rw [fromB_iff]; omega
  generalize fromB t.Things.length 3 128 = p1 at *
  cases p1 <;> simp [-cB, hN]
  obtain ⟨hN1, hN2⟩ := hN rfl
  clear hN
  have hR1 : nothingB t (thingAt t 0) = true → (thingAt t 0).Parent = 0 := by
    intro h; simp [nothingB] at h; exact h.1.1.1.1.1.2
  generalize nothingB t (thingAt t 0) = p2 at *
  cases p2 <;> simp [-cB, show 0 < t.Things.length by omega, show 1 < t.Things.length by omega]
  have h1 : thingAt t 1 = t.Things[1]?.getD GThing.zero := rfl
  have h1' : t.Things[1]'(by omega) = thingAt t 1 := by rw [h1, List.getElem?_eq_getElem (by omega)]; simp
  rw [h1']
  generalize (thingAt t 1).Room = p3 at *
  cases p3 <;> simp [-cB]
  generalize hl : t.Things.tail = l at *
  have hll : l.length + 1 = t.Things.length := by rw [← hl]; simp; omega
  have hlg : ∀ (k : Nat) (h : k < l.length), t.Things[k + 1]'(by omega) = l[k] := by intro k h; subst hl; simp
  refine AWP.loopL [1, 3] l (fun pre => [(3, .d (.v (.int .i64 ((pre.length : Int) + 1))))]) (fun _ => []) (fun pre => allB (thingOk t) pre = true) (by rfl) (by omega) (by simp [allB_nil]) ?_ ?_
  · rintro pre x post hsp hH hlt hge a4
    have hall := allB_split hsp hH
    have hsn : allB (thingOk t) (pre ++ [x]) = thingOk t x := by simp [allB_snoc, hH]
    have hge' := hlg _ hlt
    rw [hge] at hge'
    have hxw : x.wf := hwf x (by rw [← hge']; exact List.getElem_mem _)
    have c1 : (pre.length : Int) + 1 < t.Things.length := by omega
    have c2 : pre.length + 1 < t.Things.length := by omega
    have hbl := bitsM_le t.Flags
    have hok : thingOk t x = (textB t x.Title false && textB t x.Text true && fromB x.Flags 0 (bitsM t.Flags - 1) && decide (x.Props.length = t.Props.length) && allB int16 x.Props && wordsB x.Words 8 && wordsB x.Adjs 8 &&
      (decide (x.Parent = 0) || thingB t x.Parent) && (!x.Room || decide (x.Parent = 0)) && (x.Room || decide (x.Ways.length = 0)) && waysB t x.Ways) := rfl
    clear hwf hsp hlg hge hN1 hN2 h0 h1 h1' hz
    have c0 : 0 ≤ (pre.length : Int) + 1 := by omega
    simp [-cB, c0, c1, c2, hge', hall]
    try intro (_ : Nat → Nat)
    refine AWP.regionD [.d (.v (.bool (textB t x.Title false))), .d (.v (.bool (textB t x.Text true))), .d (.v (.int .i64 (bitsM t.Flags))), .d (.v (.bool (fromB x.Flags 0 (bitsM t.Flags - 1)))), .d (.v (.bool (allB int16 x.Props))), .d (.v (.bool (wordsB x.Words 8))), .d (.v (.bool (wordsB x.Adjs 8)))] Tryz.mixed (by kernel_rfl) (by rfl) ?_
    simp [-cB, (refText_ok t ht _ _).ok, (refBits_ok _).ok, (refFrom_ok _ _ _).ok, (refValues_ok x.Props (by have := GThing.wl_Props hxw; omega)).ok, (refWords_ok x.Words (by have := GThing.wl_Words hxw; omega) (fun y hy => by have := GThing.wf_Words hxw y hy; omega) _).ok, (refWords_ok x.Adjs (by have := GThing.wl_Adjs hxw; omega) (fun y hy => by have := GThing.wf_Adjs hxw y hy; omega) _).ok]
    refine ⟨fun h h' => ⟨by rw [inR_i64]; omega, h, h'⟩, ?_⟩
    refine condC_split (fun h => ?_) (fun h => ?_)
    · simp [-cB]
      simp at h
      all_goals (first | assumption | omega | (rw [inR_i64]; omega) | (simp_all; done) | grind | skip)
    · simp [-cB]
      simp at h
      repeat' (first
        | (with_reducible refine And.intro ?_ ?_)
        | (refine condC_split (fun h => ?_) (fun h => ?_) <;> (try simp at h) <;> (try simp [-cB, *]))
        | (refine AOps.pureC rfl (refThing_ok t ht _) rfl rfl (by simp) rfl ?_ <;> (try simp [-cB, *]))
        | (refine AOps.pureC rfl (refWays_ok t ht x.Ways (by have := GThing.wl_Ways hxw; omega) (GThing.wf_Ways hxw)) rfl rfl (by simp) rfl ?_ <;> (try simp [-cB, *]))
        | (refine AOps.lendC rfl (refThing_ok t ht _) rfl (by simp) rfl rfl (by simp) rfl ?_ <;> (try simp [-cB, *]))
        | (refine AOps.lendC rfl (refWays_ok t ht x.Ways (by have := GThing.wl_Ways hxw; omega) (GThing.wf_Ways hxw)) rfl (by simp) rfl rfl (by simp) rfl ?_ <;> (try simp [-cB, *]))
        | (refine AOps.pureG rfl (fun h => refThing_ok t ht _) rfl (by first | rfl | (simp; rfl)) (by simp) (by simp) rfl ?_ <;> (try simp [-cB, *]))
        | (refine AOps.pureG rfl (fun h => refWays_ok t ht x.Ways (by have := GThing.wl_Ways hxw; omega) (GThing.wf_Ways hxw)) rfl (by first | rfl | (simp; rfl)) (by simp) (by simp) rfl ?_ <;> (try simp [-cB, *]))
        | (with_reducible intro _))
      all_goals (first | assumption | omega | (rw [inR_i64]; omega) | (simp_all; done) | grind | skip)
  · intro hH
    have hpar : parentsB t := by
      intro x hx
      obtain ⟨k, hk, rfl⟩ := List.getElem_of_mem hx
      cases k with
      | zero =>
        have := hR1 rfl
        rw [h0, List.getElem?_eq_getElem hk] at this
        simp only [Option.getD_some] at this
        rw [this]; omega
      | succ k =>
        rw [hlg k (by omega)]
        have := allB_iff.1 hH l[k] (List.getElem_mem _)
        simp [thingOk, thingB, fromB] at this
        omega
    clear hwf h0 hz hR1 h1 h1' hlg
    have c9 : ¬ ((l.length : Int) + 1 < t.Things.length) := by omega
    simp [-cB, c9, hH]
    refine AWP.loopL [1, 5] (List.range (t.Things.length - 1)) (fun pre => [(5, .d (.v (.int .i64 ((pre.length : Int) + 1))))]) (fun _ => []) (fun pre => allB (fun (i : Nat) => endsB t ((i : Int) + 1)) pre = true) (by rfl) (by simp; omega) (by simp [allB_nil]) ?_ ?_
    · rintro pre x post hsp hH2 hlt hge a4
      have hall := allB_split hsp hH2
      have hx : pre.length = x := by simpa using hge
      have hsn : allB (fun (i : Nat) => endsB t ((i : Int) + 1)) (pre ++ [x]) = endsB t ((x : Int) + 1) := by simp [allB_snoc, hH2]
      simp at hlt
      subst hx
      have c1 : (pre.length : Int) + 1 < t.Things.length := by omega
      have hE := refEnds_ok t ht hpar ((pre.length : Int) + 1) (by omega)
      clear hsp hge
      simp [-cB, c1, hall]
      repeat' (first
        | (with_reducible refine And.intro ?_ ?_)
        | (refine condC_split (fun h => ?_) (fun h => ?_) <;> (try simp at h) <;> (try simp [-cB, *]))
        | (refine AOps.pureC rfl (hE) rfl rfl (by simp) rfl ?_ <;> (try simp [-cB, *]))
        | (refine AOps.lendC rfl (hE) rfl (by simp) rfl rfl (by simp) rfl ?_ <;> (try simp [-cB, *]))
        | (refine AOps.pureG rfl (fun h => hE) rfl (by first | rfl | (simp; rfl)) (by simp) (by simp) rfl ?_ <;> (try simp [-cB, *]))
        | (with_reducible intro _))
      all_goals (first | assumption | omega | (rw [inR_i64]; omega) | (simp_all; done) | grind | skip)
    · intro hH2
      have c1 : ¬ (((t.Things.length - 1 : Nat) : Int) + 1 < t.Things.length) := by omega
      simp [-cB, c1, hH2]
      repeat' (first
        | (with_reducible refine And.intro ?_ ?_)
        | (refine condC_split (fun h => ?_) (fun h => ?_) <;> (try simp at h) <;> (try simp [-cB, *]))
        | (refine AOps.pureC rfl (refRoom_ok t ht 1) rfl rfl (by simp) rfl ?_ <;> (try simp [-cB, *]))
        | (refine AOps.lendC rfl (refRoom_ok t ht 1) rfl (by simp) rfl rfl (by simp) rfl ?_ <;> (try simp [-cB, *]))
        | (refine AOps.pureG rfl (fun h => refRoom_ok t ht 1) rfl (by first | rfl | (simp; rfl)) (by simp) (by simp) rfl ?_ <;> (try simp [-cB, *]))
        | (with_reducible intro _))
end Go.Ab
