/-
  The engine, part R2: weakenings by slot.
-/
import Derived.Test.YticchnalleplcaaAbL
set_option linter.unusedSimpArgs false
set_option linter.unusedVariables false
namespace Go.Ab

section
variable {P : Program} {n : Nat} {s : St} {L : Heap}

/-- A slot that holds a nil slice: its row, empty, is owned. -/
theorem Wk.own' {t h k : Nat} {ty : TypeId} (hg : getF t s.fr = .d (.v (.slice none 0 0))) (hn : h ∉ keys s.L) : Wk n s ⟨(t, .rv h) :: delF t s.fr, (h, .row ty k []) :: s.L⟩ := by
  intro fo m a w g
  obtain ⟨g', st⟩ := g.new (Grows.refl w) hn (x := .slice none 0 0) (r := .row ty k []) (by intro b hb; simp [blk] at hb) (.inl ⟨rfl, rfl⟩)
  have hm : (t, getF t s.fr) ∈ s.fr := by
    rcases getF_mem (t := t) (l := s.fr) with h | h
    · rw [hg] at h; cases h
    · exact h
  rw [hg] at hm
  refine ⟨_, ⟨g'.size, ?_, g'.inv, g'.defers⟩, st⟩
  intro t' x hx
  simp only [List.mem_cons, Prod.mk.injEq] at hx
  rcases hx with ⟨rfl, rfl⟩ | hx
  · obtain ⟨h1, h2⟩ := g'.fr t' _ hm
    refine ⟨h1, ?_⟩
    have := h2.v_inv
    rw [this]
    exact .rv h _ (mset_same _ _) rfl
  · exact g'.fr t' x (mem_delF hx).1

/-- A slot that holds a nil slice: as data it is empty. -/
theorem Wk.nil' {t : Nat} (hg : getF t s.fr = .d (.v (.slice none 0 0))) : Wk n s ⟨(t, .d (.sl [])) :: delF t s.fr, s.L⟩ := by
  intro fo m a w g
  have hm : (t, getF t s.fr) ∈ s.fr := by
    rcases getF_mem (t := t) (l := s.fr) with h | h
    · rw [hg] at h; cases h
    · exact h
  rw [hg] at hm
  refine ⟨m, ⟨g.size, ?_, g.inv, g.defers⟩, Step.refl w _⟩
  intro t' x hx
  simp only [List.mem_cons, Prod.mk.injEq] at hx
  rcases hx with ⟨rfl, rfl⟩ | hx
  · obtain ⟨h1, h2⟩ := g.fr t' _ hm
    refine ⟨h1, ?_⟩
    have := h2.v_inv
    rw [this]
    exact .d _ _ nil_rel
  · exact g.fr t' x (mem_delF hx).1

/-- The state, of which only these slots and handles are kept. -/
def St.pick (ts hs : List Nat) (s : St) : St := ⟨ts.map fun t => (t, getF t s.fr), hs.filterMap fun h => (s.L.lookup h).map fun r => (h, r)⟩

theorem pick_keys (hs : List Nat) (L : Heap) : ∀ x, x ∈ keys (hs.filterMap fun h => (L.lookup h).map fun r => (h, r)) → x ∈ hs := by
  intro x hx
  obtain ⟨p, hp, rfl⟩ := List.mem_map.1 hx
  obtain ⟨h, hh, he⟩ := List.mem_filterMap.1 hp
  obtain ⟨r, _, rfl⟩ := Option.map_eq_some_iff.1 he
  exact hh

theorem pick_nodup (L : Heap) : ∀ hs : List Nat, hs.Nodup → (keys (hs.filterMap fun h => (L.lookup h).map fun r => (h, r))).Nodup
  | [], _ => by simp [keys]
  | h :: hs, hn => by
    have hn' := List.nodup_cons.1 hn
    rw [List.filterMap_cons]
    cases hl : L.lookup h with
    | none => exact pick_nodup L hs hn'.2
    | some r =>
      simp only [Option.map_some, keys, List.map_cons, List.nodup_cons]
      exact ⟨fun hm => hn'.1 (pick_keys hs L h hm), pick_nodup L hs hn'.2⟩

theorem Wk.pick (ts hs : List Nat) (ht : ts.all (fun t => decide (t < n)) = true) (hh : hs.Nodup) (hon : (s.pick ts hs).on (keys (s.pick ts hs).L) = true) : Wk n s (s.pick ts hs) := by
  intro fo m a w g
  have key : Wk n ⟨(s.pick ts hs).fr ++ s.fr, s.L⟩ (s.pick ts hs) := Wk.drop (fun p hp => List.mem_append_left _ hp) (fun p hp => by
      obtain ⟨h, _, he⟩ := List.mem_filterMap.1 hp
      obtain ⟨r, hr, rfl⟩ := Option.map_eq_some_iff.1 he
      exact lookup_mem hr) (pick_nodup _ _ hh) hon
  refine key fo m a w ⟨g.size, fun t x hx => ?_, g.inv, g.defers⟩
  rcases List.mem_append.1 hx with hx | hx
  · obtain ⟨t', ht', e⟩ := List.mem_map.1 hx
    simp only [Prod.mk.injEq] at e
    obtain ⟨rfl, rfl⟩ := e
    rw [List.all_eq_true] at ht
    refine ⟨by simpa using ht t' ht', ?_⟩
    exact get_rel g t'
  · exact g.fr t x hx

attribute [simp] St.pick
@[simp] theorem dd_encI_set (l : List Int) (k : Nat) (v : Int) : (dd (encI l)).set k [.d (.v (.int .i64 v))] = dd (encI (l.set k v)) := by
  simp [dd, encI, List.map_set]
@[simp] theorem dd_encI_snoc (l : List Int) (v : Int) : dd (encI l) ++ [[.d (.v (.int .i64 v))]] = dd (encI (l ++ [v])) := by
  simp [dd, encI]
@[simp] theorem dd_lens (xs : List (List D)) (k : Nat) : (∀ y ∈ dd xs, y.length = k) ↔ ∀ x ∈ xs, x.length = k := by
  simp [dd]
@[simp] theorem encI_lens (l : List Int) : (∀ x ∈ encI l, x.length = 1) ↔ True := by
  simp [encI]

/-! ### Evaluation: what follows is not looked into before the state is known -/
variable {Q : AX → St → Prop} {ops : Array Oper} {us : List V}
@[congr] theorem codeK_cg {c : Code} {s s' : St} (h : s = s') : codeK P n c s Q = codeK P n c s' Q := by rw [h]
@[congr] theorem AOps_cg {l : List Oper} {s s' : St} (h : s = s') : AOps P n ops l s Q = AOps P n ops l s' Q := by rw [h]
@[congr] theorem AWP_cg {c : Code} {s s' : St} (h : s = s') : AWP P n c s Q = AWP P n c s' Q := by rw [h]
@[congr] theorem runC_cg {l : List Oper} {s s' : St} {bs : Nat → Nat} {us us' : List V} {K : St → List Oper → Prop} (h : s = s') (hu : us = us') : runC P ops l s bs us K = runC P ops l s' bs us' K := by rw [h, hu]
@[congr] theorem runD_cg {l : List Oper} {s s' : St} {us us' : List V} {K : St → Prop} (h : s = s') (hu : us = us') : runD P ops l s us K = runD P ops l s' us' K := by rw [h, hu]
@[congr] theorem runM_cg {l : List (Oper × Option (Nat × Nat))} {fr fr' : FrM} {ks ks' : List (Option Nat)} {Ls Ls' : List Heap} {us us' : List V} {ds ds' : List Dfr} {K : FrM → List (Option Nat) → List Heap → Prop}
    (h1 : fr = fr') (h2 : ks = ks') (h3 : Ls = Ls') (h4 : us = us') (h5 : ds = ds') : runM P ops l fr ks Ls us ds K = runM P ops l fr' ks' Ls' us' ds' K := by rw [h1, h2, h3, h4, h5]
@[congr] theorem AXthen_cg {f : St → Prop} {x x' : AX} {s s' : St} (hx : x = x') (h : s = s') : AX.then f Q x s = AX.then f Q x' s' := by rw [hx, h]
@[congr] theorem AXin_cg {i : Nat} {x x' : AX} {s s' : St} (hx : x = x') (h : s = s') : AX.inBlock i Q x s = AX.inBlock i Q x' s' := by rw [hx, h]
@[congr] theorem KK_cg {l l' : List Oper} {s s' : St} (hs : s = s') (hl : l = l') : KK P n ops Q s l = KK P n ops Q s' l' := by rw [hs, hl]

/-- What follows, as data: simp does not look into it. -/
inductive KI where
  | seq (c : Code)
  | blk (id : Nat)
  | inv (J : St → Prop)

def kontK (P : Program) (n : Nat) (Q : AX → St → Prop) : List KI → AX → St → Prop
  | [] => Q
  | .seq c :: ks => AX.then (fun s => codeK P n c s (kontK P n Q ks)) (kontK P n Q ks)
  | .blk id :: ks => AX.inBlock id (kontK P n Q ks)
  | .inv J :: ks => AX.then J (kontK P n Q ks)

theorem codeK_region {id : Nat} {l : List Oper} {s : St} : codeK P n (.region id l.toArray false) s Q = (dstsOk n l = true ∧ ∀ bs, runC P l.toArray l s bs [] (KK P n l.toArray Q)) := by simp [codeK]
theorem codeK_draw {id : Nat} {l : List Oper} {s : St} : codeK P n (.region id l.toArray true) s Q = AWP P n (.region id l.toArray true) s Q := by simp [codeK]
theorem codeK_skip {s : St} : codeK P n .skip s Q = Q .normal s := by simp [codeK]
theorem codeK_seq {x y : Code} {s : St} {ks : List KI} : codeK P n (.seq x y) s (kontK P n Q ks) = codeK P n x s (kontK P n Q (.seq y :: ks)) := by rw [codeK]; rfl
/-- A condition: its branches are data until it is known. ('if's, so that simp looks at what is asked before it looks at what follows.) -/
def condC (P : Program) (n : Nat) (v : V) (x y : Code) (s : St) (Q : AX → St → Prop) : Prop :=
  match v with
  | .d (.v (.bool t)) => (t = true → codeK P n x s Q) ∧ (t = false → codeK P n y s Q)
  | _ => False
@[simp] theorem condC_bool {t : Bool} {x y : Code} {s : St} : condC P n (.d (.v (.bool t))) x y s Q = ((if t = true then codeK P n x s Q else True) ∧ (if t = true then True else codeK P n y s Q)) := by
  cases t <;> simp [condC]
@[simp] theorem condC_t {x y : Code} {s : St} : condC P n (.d (.v (.bool true))) x y s Q = codeK P n x s Q := by simp [condC]
@[simp] theorem condC_f {x y : Code} {s : St} : condC P n (.d (.v (.bool false))) x y s Q = codeK P n y s Q := by simp [condC]
theorem condC_split {t : Bool} {x y : Code} {s : St} (h1 : t = true → codeK P n x s Q) (h2 : t = false → codeK P n y s Q) : condC P n (.d (.v (.bool t))) x y s Q := ⟨h1, h2⟩
theorem codeK_cond {c : Operand} {x y : Code} {s : St} : codeK P n (.cond c x y) s Q = condC P n (s.ev c) x y s Q := by
  rw [codeK]
  unfold condC
  split
  · rename_i b h; rw [h]
  · rename_i h
    split
    · rename_i b hb; exact (h b hb).elim
    · rfl
theorem codeK_block {id : Nat} {c : Code} {s : St} {ks : List KI} : codeK P n (.block id c) s (kontK P n Q ks) = codeK P n c s (kontK P n Q (.blk id :: ks)) := by rw [codeK]; rfl
theorem codeK_exit {id : Nat} {s : St} : codeK P n (.exit id) s Q = Q (.exit id) s := by rw [codeK]
theorem codeK_ret {s : St} : codeK P n .ret s Q = Q .ret s := by rw [codeK]
theorem codeK_loop {c : Code} {s : St} : codeK P n (.loop c) s Q = AWP P n (.loop c) s Q := by simp [codeK]

attribute [simp] codeK_region codeK_draw codeK_skip codeK_seq codeK_cond codeK_block codeK_exit codeK_ret codeK_loop

variable {ks : List KI}
@[simp] theorem kontK_nil {x : AX} : kontK P n Q [] x s = Q x s := rfl
@[simp] theorem kontK_seq_n {c : Code} : kontK P n Q (.seq c :: ks) .normal s = codeK P n c s (kontK P n Q ks) := rfl
@[simp] theorem kontK_seq_e {c : Code} {i : Nat} : kontK P n Q (.seq c :: ks) (.exit i) s = kontK P n Q ks (.exit i) s := rfl
@[simp] theorem kontK_seq_g {c : Code} {i : Nat} : kontK P n Q (.seq c :: ks) (.goto i) s = kontK P n Q ks (.goto i) s := rfl
@[simp] theorem kontK_seq_r {c : Code} : kontK P n Q (.seq c :: ks) .ret s = kontK P n Q ks .ret s := rfl
@[simp] theorem kontK_seq_p {c : Code} {v : V} : kontK P n Q (.seq c :: ks) (.pan v) s = kontK P n Q ks (.pan v) s := rfl
@[simp] theorem kontK_inv_n {J : St → Prop} : kontK P n Q (.inv J :: ks) .normal s = J s := rfl
@[simp] theorem kontK_inv_e {J : St → Prop} {i : Nat} : kontK P n Q (.inv J :: ks) (.exit i) s = kontK P n Q ks (.exit i) s := rfl
@[simp] theorem kontK_inv_g {J : St → Prop} {i : Nat} : kontK P n Q (.inv J :: ks) (.goto i) s = kontK P n Q ks (.goto i) s := rfl
@[simp] theorem kontK_inv_r {J : St → Prop} : kontK P n Q (.inv J :: ks) .ret s = kontK P n Q ks .ret s := rfl
@[simp] theorem kontK_inv_p {J : St → Prop} {v : V} : kontK P n Q (.inv J :: ks) (.pan v) s = kontK P n Q ks (.pan v) s := rfl
@[simp] theorem kontK_blk_n {i : Nat} : kontK P n Q (.blk i :: ks) .normal s = kontK P n Q ks .normal s := rfl
@[simp] theorem kontK_blk_e {i j : Nat} : kontK P n Q (.blk i :: ks) (.exit j) s = if j = i then kontK P n Q ks .normal s else kontK P n Q ks (.exit j) s := by
  simp only [kontK, AX.inBlock]
@[simp] theorem kontK_blk_g {i j : Nat} : kontK P n Q (.blk i :: ks) (.goto j) s = kontK P n Q ks (.goto j) s := rfl
@[simp] theorem kontK_blk_r {i : Nat} : kontK P n Q (.blk i :: ks) .ret s = kontK P n Q ks .ret s := rfl
@[simp] theorem kontK_blk_p {i : Nat} {v : V} : kontK P n Q (.blk i :: ks) (.pan v) s = kontK P n Q ks (.pan v) s := rfl

/-- What is asked at a loop's head. -/
def LoopQ (ts hs : List Nat) (I : Nat → St → Prop) (k : Nat) (s : St) : Prop := (s.pick ts hs).on (keys (s.pick ts hs).L) = true ∧ ∃ k', k' < k ∧ I k' (s.pick ts hs)

/-- A loop: at its head these slots and handles are kept. -/
theorem AWP.loopP {c : Code} (ts hs : List Nat) (I : Nat → St → Prop) (ht : ts.all (fun t => decide (t < n)) = true) (hh : hs.Nodup)
    (h0 : (s.pick ts hs).on (keys (s.pick ts hs).L) = true ∧ ∃ k, I k (s.pick ts hs))
    (round : ∀ k s, I k s → codeK P n c s (kontK P n Q (.inv (LoopQ ts hs I k) :: ks))) : AWP P n (.loop c) s (kontK P n Q ks) := by
  obtain ⟨h1, k, h2⟩ := h0
  refine AWP.weaken (Wk.pick ts hs ht hh h1) (AWP.loop I ⟨k, h2⟩ (fun k s h => AWP.mono (codeK_sound _ _ _ (round k s h)) (fun x s' hx => ?_)))
  cases x with
  | normal =>
    obtain ⟨h1, k', hk, h2⟩ := hx
    exact ⟨k', hk, _, Wk.pick ts hs ht hh h1, h2⟩
  | _ => exact hx

/-- A function's contract: its body is run. -/
theorem ACalls.run {f : FuncId} {args : List V} {R : AE → Heap → Prop} {fn : Func} {c : Code} (hf : P.funcs[f]? = some fn) (hb : fn.body = some c) (hn : args.length ≤ fn.ntmps)
    (h : codeK P fn.ntmps c ⟨argFrame 0 args, L⟩ (kontK P fn.ntmps (FPost P fn.results.toList R) [])) : ACalls P f args L R :=
  ACalls.of_AWP hf hb hn (codeK_sound _ _ _ h)
end
end Go.Ab
