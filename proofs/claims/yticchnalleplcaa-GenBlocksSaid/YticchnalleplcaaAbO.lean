/-
  The engine, part O: the regions of part M: the run, and that every order serves.
-/
import Derived.Test.YticchnalleplcaaAbM
set_option linter.unusedSimpArgs false
set_option linter.unusedVariables false
namespace Go.Ab

section
variable {P : Program} {n : Nat} {Q : AX → St → Prop}

/-- What holds while the operations come up in some order: the phase is p. -/
structure MidM (fo : Nat → Prop) (m : Nat → Option Value) (m0 : Nat → Option Value) (w0 : World) (n : Nat) (l : List Oper) (lds : List Nat) (ks : List (Option Nat)) (Ls : Nat → Heap) (fr0 : FrM) (tr : List Rec) (p : Nat) (listed : Array Bool) (a : Act) (w : World) : Prop where
  size : a.tmps.size = n
  defers : a.defers = []
  inv : Inv fo m (Ls p) w
  step : Step w0 (own m0) w (own m)
  lsz : listed.size = l.length
  ple : p ≤ lds.length
  louds : ∀ q j, lds[q]? = some j → (listed.getD j false = true ↔ q < p)
  born : ∀ (j : Nat) (r : Rec), tr[j]? = some r → listed.getD j false = true → r.birth ≤ p
  done : ∀ (j : Nat) (o : Oper) (r : Rec) (d : Nat), l[j]? = some o → tr[j]? = some r → o.dst = some d → listed.getD j false = true → RelV w (OO fo m) m (a.tmps.getD d undef) (killR ks r.birth p r.x)
  todo : ∀ t, (∀ (j : Nat) (o : Oper), l[j]? = some o → o.dst = some t → listed.getD j false = false) → RelV w (OO fo m) m (a.tmps.getD t undef) (killR ks (getM t fr0).1 p (getM t fr0).2)
  rest : ∀ e, e ∈ fr0 → (∀ (j : Nat) (o : Oper), l[j]? = some o → o.dst ≠ some e.1) → RelV w (OO fo m) m (a.tmps.getD e.1 undef) (killR ks e.2.1 p e.2.2)
  closed : ∀ (j : Nat) (o : Oper), l[j]? = some o → listed.getD j false = true → ∀ e ∈ o.after, Region.binds .any e = true → listed.getD e.on false = true

theorem getF_range {f : Nat → V} {rest : List (Nat × V)} {t : Nat} : ∀ (k b : Nat), b ≤ t → t < b + k → getF t ((List.range' b k).map (fun t => (t, f t)) ++ rest) = f t
  | 0, b, h1, h2 => by omega
  | k + 1, b, h1, h2 => by
    rw [List.range'_succ, List.map_cons, List.cons_append, getF]
    split
    · rename_i h; rw [h]
    · exact getF_range k (b + 1) (by omega) (by omega)

theorem killR_rel {ks : List (Option Nat)} {β p : Nat} {w : World} {O : Nat → Prop} {m : Nat → Option Value} {v : Value} (x : V) (h : RelV w O m v x) : RelV w O m v (killR ks β p x) := by
  unfold killR
  generalize (ks.take p).drop β = l
  induction l generalizing x with
  | nil => exact h
  | cons k l ih =>
    rw [List.foldl_cons]
    refine ih _ ?_
    cases k with
    | none => exact h
    | some i => exact h.kill (fun _ _ _ e => e)

theorem okGo_loud {anc : List (List Nat)} {lds : List Nat} {l : List (Oper × Option (Nat × Nat))} {fr fr' : FrM} {q q' : Nat} {tr : List Rec} (h : TrM l fr q tr fr' q') : ∀ i0, okGo anc lds l i0 q = true →
    ∀ (p j : Nat), q ≤ p → lds[p]? = some j → ∃ (i : Nat) (r : Rec), j = i0 + i ∧ tr[i]? = some r ∧ r.loud = true ∧ r.q = p := by
  induction h with
  | nil fr q =>
    intro i0 h p j hp hj
    simp only [okGo, beq_iff_eq] at h
    have := (List.getElem?_eq_some_iff.1 hj).1
    omega
  | @quiet o rest fr q x lo hi l fr' q' k ih =>
    intro i0 h p j hp hj
    simp only [okGo, Bool.and_eq_true] at h
    obtain ⟨i, r, h1, h2, h3, h4⟩ := ih (i0 + 1) h.2 p j hp hj
    exact ⟨i + 1, r, by omega, by simpa using h2, h3, h4⟩
  | @loud o rest fr q x l fr' q' k ih =>
    intro i0 h p j hp hj
    simp only [okGo, Bool.and_eq_true, beq_iff_eq] at h
    rcases Nat.lt_or_ge q p with hlt | hge
    · obtain ⟨i, r, h1, h2, h3, h4⟩ := ih (i0 + 1) h.2 p j (by omega) hj
      exact ⟨i + 1, r, by omega, by simpa using h2, h3, h4⟩
    · obtain rfl : q = p := by omega
      rw [h.1.1] at hj
      cases hj
      exact ⟨0, _, rfl, rfl, rfl, rfl⟩

theorem any_orderM {l : List Oper} {rg : List (Option (Nat × Nat))} {lds : List Nat} {ks : List (Option Nat)} {Ls : Nat → Heap} {fr0 frE : FrM} {tr : List Rec} {k : Nat} (hz : rg.length = l.length)
    (ht : TrM (l.zip rg) fr0 0 tr frE k) (hsem : ∀ (i : Nat) (r : Rec) (o : Oper), tr[i]? = some r → l[i]? = some o → SemM P n l.toArray ks Ls r o) (hin : indep l = true) (hd : dstsOk n l = true) (hnd : lds.Nodup)
    (hanc : ancOk l (ancs l []) = true) (hgo : okGo (ancs l []) lds (l.zip rg) 0 0 = true) (hlk : ∀ o ∈ l, ∀ t ∈ o.looksAt l.toArray, t < n) (hks : ks.length = k) (hq : Q .normal ⟨frAt ks k frE, Ls k⟩)
    {fo : Nat → Prop} {m0 : Nat → Option Value} {w0 : World} (hfr : ∀ e, e ∈ fr0 → e.1 < n) (hf0 : ∀ e, e ∈ fr0 → e.2.1 = 0) :
    ∀ (fuel : Nat) (m : Nat → Option Value) (p : Nat) (listed : Array Bool) (un : List Nat) (a : Act) (w : World), un.length ≤ fuel → (∀ i, i < l.length → listed.getD i false = false → i ∈ un) →
      MidM fo m m0 w0 n l lds ks Ls fr0 tr p listed a w → wpAny P .any l.toArray (Post fo n m0 w0 Q) fuel listed a w := by
  have hdl : ∀ (i : Nat) (o : Oper) (d : Nat), l[i]? = some o → o.dst = some d → d < n := by
    intro i o d hi ho
    unfold dstsOk at hd
    rw [List.all_eq_true] at hd
    have := hd o (List.mem_of_getElem? hi)
    rw [ho] at this
    simpa using this
  have hzl : (l.zip rg).length = l.length := by rw [List.length_zip]; omega
  have hlen : tr.length = l.length := by rw [ht.len, hzl]
  have htr : ∀ i : Nat, i < l.length → ∃ r : Rec, tr[i]? = some r := fun i hi => ⟨_, List.getElem?_eq_getElem (by omega)⟩
  have hzip : ∀ (i : Nat) (o : Oper), l[i]? = some o → ∃ g, (l.zip rg)[i]? = some (o, g) := by
    intro i o hi
    have hil := (List.getElem?_eq_some_iff.1 hi).1
    refine ⟨rg[i]'(by omega), ?_⟩
    rw [List.getElem?_zip_eq_some]
    exact ⟨hi, List.getElem?_eq_getElem (by omega)⟩
  have hunzip : ∀ (i : Nat) (z : Oper × Option (Nat × Nat)), (l.zip rg)[i]? = some z → l[i]? = some z.1 := by
    intro i z hz'
    exact (List.getElem?_zip_eq_some.1 hz').1
  obtain ⟨hlds, hat0⟩ := okGo_at ht 0 hgo
  have hat : ∀ (i : Nat) (r : Rec) (o : Oper), tr[i]? = some r → l[i]? = some o →
      (r.loud = true → lds[r.q]? = some i ∧ (∀ j ∈ lds.take r.q, j ∈ (ancs l []).getD i [])) ∧
      (r.loud = false → r.lo ≤ lds.length ∧ i ∉ lds ∧ (∀ j ∈ lds.take r.lo, j ∈ (ancs l []).getD i []) ∧ ∀ j ∈ lds.drop r.hi, i ∈ (ancs l []).getD j []) := by
    intro i r o hr ho
    obtain ⟨g, hg⟩ := hzip i o ho
    have := hat0 i r (o, g) hr hg
    simpa using this
  have getM0 : ∀ t, (getM t fr0).1 = 0 := by
    intro t
    clear ht hfr
    induction fr0 with
    | nil => rfl
    | cons e fr ih =>
      obtain ⟨k, b, x⟩ := e
      rw [getM]
      split
      · exact hf0 _ List.mem_cons_self
      · exact ih (fun e he => hf0 e (List.mem_cons_of_mem _ he))
  have hloud : ∀ (q j : Nat), lds[q]? = some j → j < l.length ∧ ∃ r, tr[j]? = some r ∧ r.loud = true ∧ r.q = q := by
    intro q j hj
    obtain ⟨i, r, h1, h2, h3, h4⟩ := okGo_loud ht 0 hgo q j (Nat.zero_le _) hj
    obtain rfl : j = i := by omega
    exact ⟨by have := (List.getElem?_eq_some_iff.1 h2).1; omega, r, h2, h3, h4⟩
  -- the end
  have fin : ∀ (m : Nat → Option Value) (p : Nat) (listed : Array Bool) (a : Act) (w : World), (∀ i, i < l.length → listed.getD i false = true) → MidM fo m m0 w0 n l lds ks Ls fr0 tr p listed a w → Post fo n m0 w0 Q .normal a w := by
    intro m p listed a w hall M
    have hpk : p = k := by
      have h1 := M.ple
      rcases Nat.lt_or_ge p lds.length with h | h
      · have hj := M.louds p lds[p] (List.getElem?_eq_getElem h)
        have hmem : lds[p] < l.length := by
          refine Classical.byContradiction fun hn => ?_
          exact hn (hloud p _ (List.getElem?_eq_getElem h)).1
        have := hj.1 (hall _ hmem)
        omega
      · omega
    subst hpk
    refine ⟨m, .normal, _, hq, ⟨M.size, ?_, M.inv, M.defers⟩, trivial, M.step⟩
    intro t x hx
    obtain ⟨e, he, hex⟩ := List.mem_map.1 hx
    simp only [Prod.mk.injEq] at hex
    obtain ⟨rfl, rfl⟩ := hex
    rcases ht.mem e he with ⟨j, z, r, h1, h2, h3, h4⟩ | ⟨h1, h2⟩
    · have h1' := hunzip j z h1
      refine ⟨hdl j z.1 e.1 h1' h2, ?_⟩
      have := M.done j z.1 r e.1 h1' h3 h2 (hall j (List.getElem?_eq_some_iff.1 h1').1)
      rw [h4]
      exact this
    · exact ⟨hfr _ h1, M.rest _ h1 (fun j o hj => by
        obtain ⟨g, hg⟩ := hzip j o hj
        exact h2 j (o, g) hg)⟩
  have ready_nil : ∀ (listed : Array Bool), listed.size = l.length → Region.ready .any l.toArray listed = [] → ∀ i, i < l.length → listed.getD i false = true := by
    intro listed hsz hr i
    induction i using Nat.strongRecOn with
    | _ i ih =>
      intro hi
      cases hb : listed.getD i false with
      | true => rfl
      | false =>
        exfalso
        have hmem : i ∈ Region.ready .any l.toArray listed := by
          refine mem_ready.2 ⟨by rw [getD_lt (c := false) (by omega)]; exact hb, l[i], by simp [hi], fun e he hbd => ?_⟩
          have := (indep_at hin (List.getElem?_eq_getElem hi)).2.1 e he hbd
          exact ih e.on this (by omega)
        rw [hr] at hmem
        cases hmem
  intro fuel
  induction fuel with
  | zero =>
    intro m p listed un a w hun hall M
    have h0 : ∀ i, i < l.length → listed.getD i false = true := by
      intro i hi
      cases hb : listed.getD i false with
      | true => rfl
      | false => have h9 := hall i hi hb; have h8 : un = [] := List.eq_nil_of_length_eq_zero (by omega); rw [h8] at h9; cases h9
    refine ⟨?_, fin m p listed a w h0 M⟩
    rw [List.eq_nil_iff_forall_not_mem]
    intro j hj
    obtain ⟨h1, o, h2, _⟩ := mem_ready.1 hj
    have hjl : j < l.length := by have := (Array.getElem?_eq_some_iff.1 h2).1; simpa using this
    rw [getD_lt (c := false) (by have := M.lsz; omega)] at h1
    rw [h0 j hjl] at h1
    cases h1
  | succ fuel ih =>
    intro m p listed un a w hun hall M
    refine ⟨fun hr => fin m p listed a w (ready_nil listed M.lsz hr) M, ?_⟩
    intro i hi
    obtain ⟨h1, o, h2, h3⟩ := mem_ready.1 hi
    have hil : i < l.length := by have := (Array.getElem?_eq_some_iff.1 h2).1; simpa using this
    have hio : l[i]? = some o := by simpa using h2
    rw [getD_lt (c := false) (by have := M.lsz; omega)] at h1
    obtain ⟨r, htri⟩ := htr i hil
    obtain ⟨hs1, hs2⟩ := hsem i r o htri hio
    obtain ⟨ha1, ha2⟩ := hat i r o htri hio
    obtain ⟨i1, i2, i3⟩ := indep_at hin hio
    have uniq : ∀ (t : Nat) (j : Nat) (o'' : Oper), l[j]? = some o'' → o''.dst = some t → writes l t = some j := fun t j o'' hj hd => (indep_at hin hj).1 t hd
    have hancs : ∀ j ∈ (ancs l []).getD i [], listed.getD j false = true := anc_listed hin hanc M.closed i o hio h3
    have hancl : ∀ (j : Nat) (oj : Oper), l[j]? = some oj → listed.getD j false = true → ∀ j' ∈ (ancs l []).getD j [], listed.getD j' false = true :=
      fun j oj hoj hb => anc_listed hin hanc M.closed j oj hoj (M.closed j oj hoj hb)
    -- what the slots that are looked at hold
    have hslots : ∀ t, t ∈ o.looksAt l.toArray → RelV w (OO fo m) m (a.tmps.getD t undef) (getF t (frAt ks p r.fr)) := by
      intro t htl
      rw [getF_frAt]
      cases hw : writes l t with
      | none =>
        rw [ht.get_old t i r htri (fun j z _ hj => writes_none hw (hunzip j z hj))]
        exact M.todo t (fun j o'' hj hd => (writes_none hw hj hd).elim)
      | some j =>
        obtain ⟨oj, hoj, hdj⟩ := writes_some hw
        obtain ⟨rj, htrj⟩ := htr j (List.getElem?_eq_some_iff.1 hoj).1
        obtain ⟨gj, hgj⟩ := hzip j oj hoj
        rcases i3 t htl j hw with ⟨hlt, e, he, hb, hon⟩ | ⟨hlt, oj', hoj', e, he, hb, hon⟩
        · rw [ht.get_new t i j r rj (oj, gj) htri hlt htrj hgj hdj (fun j' z hjj _ hj' hd' => by
            have := uniq t j' z.1 (hunzip j' z hj') hd'
            rw [hw] at this
            have := Option.some.inj this
            omega)]
          exact M.done j oj rj t hoj htrj hdj (by rw [← hon]; exact h3 e he hb)
        · rw [ht.get_old t i r htri (fun j' z hj' hz' hd' => by
            have := uniq t j' z.1 (hunzip j' z hz') hd'
            rw [hw] at this
            have := Option.some.inj this
            omega)]
          refine M.todo t (fun j' o'' hj' hd' => ?_)
          have := uniq t j' o'' hj' hd'
          rw [hw] at this
          obtain rfl := Option.some.inj this
          cases hb' : listed.getD j false with
          | false => rfl
          | true =>
            rw [hoj] at hoj'
            obtain rfl := Option.some.inj hoj'
            have := M.closed j oj hoj hb' e he hb
            rw [hon, h1] at this
            cases this
    have hne : ∀ (v : Value) (t : Nat), o.dst ≠ some t → (a.put o.dst v).tmps.getD t undef = a.tmps.getD t undef := by
      intro v t hn
      cases hdd : o.dst with
      | none => rfl
      | some d =>
        have : d ≠ t := fun e => hn (by rw [hdd, e])
        simp [Act.put, Array.getElem?_setIfInBounds_ne this]
    have hset : ∀ j, (listed.setIfInBounds i true).getD j false = true ↔ (j = i ∨ listed.getD j false = true) := by
      intro j
      by_cases hj : j = i
      · subst hj
        have hjs : j < listed.size := by have := M.lsz; omega
        simp [Array.getD, hjs]
      · have : ¬ i = j := fun e => hj e.symm
        simp only [Array.getD_eq_getD_getElem?, Array.getElem?_setIfInBounds_ne this, hj, false_or]
    -- the step: from what holds behind the operation
    have next : ∀ (m' : Nat → Option Value) (p' : Nat) (v : Value) (w' : World), p ≤ p' → Inv fo m' (Ls p') w' → Step w (own m) w' (own m') → RelV w' (OO fo m') m' v r.x → r.birth = p' ∨ r.birth ≤ p → (∀ x β, β ≤ p → ∀ u, RelV w (OO fo m) m u (killR ks β p x) → (∃ t, t < n ∧ u = a.tmps.getD t undef ∧ ((∃ (j : Nat) (oj : Oper) (rj : Rec), l[j]? = some oj ∧ tr[j]? = some rj ∧ oj.dst = some t ∧ listed.getD j false = true ∧ x = rj.x ∧ β = rj.birth) ∨ ((∀ (j : Nat) (o : Oper), l[j]? = some o → o.dst = some t → listed.getD j false = false) ∧ x = (getM t fr0).2 ∧ β = (getM t fr0).1) ∨ ((t, β, x) ∈ fr0 ∧ ∀ (j : Nat) (o : Oper), l[j]? = some o → o.dst ≠ some t))) → RelV w' (OO fo m') m' u (killR ks β p' x)) →
        (p' ≤ lds.length) → (∀ q j, lds[q]? = some j → ((listed.setIfInBounds i true).getD j false = true ↔ q < p')) → RelV w' (OO fo m') m' v (killR ks r.birth p' r.x) → wpAny P .any l.toArray (Post fo n m0 w0 Q) fuel (listed.setIfInBounds i true) (a.put o.dst v) w' := by
      intro m' p' v w' hpp hinv hst hv hb hold hple' hlouds' hvk
      refine ih m' p' (listed.setIfInBounds i true) (un.erase i) (a.put o.dst v) w' ?_ ?_ ?_
      · have hmem := hall i hil h1
        rw [List.length_erase_of_mem hmem]; omega
      · intro j hj hb
        have hnj : ¬ ((listed.setIfInBounds i true).getD j false = true) := by rw [hb]; simp
        rw [hset] at hnj
        have hji : j ≠ i := fun e => hnj (.inl e)
        have hb2 : listed.getD j false = false := by
          cases hx : listed.getD j false with
          | false => rfl
          | true => exact (hnj (.inr hx)).elim
        exact (List.mem_erase_of_ne hji).2 (hall j hj hb2)
      · refine ⟨?_, ?_, hinv, M.step.trans hst, by simpa using M.lsz, hple', hlouds', ?_, ?_, ?_, ?_, ?_⟩
        · cases hdd : o.dst <;> simp [Act.put, M.size]
        · cases hdd : o.dst <;> simp [Act.put, M.defers]
        · intro j rj hrj hbj
          rcases (hset j).1 hbj with rfl | hbj'
          · rw [htri] at hrj
            obtain rfl := Option.some.inj hrj
            rcases hb with h | h <;> omega
          · exact Nat.le_trans (M.born j rj hrj hbj') hpp
        · intro j oj rj d hoj htrj hdj hbj
          by_cases hji : j = i
          · subst hji
            rw [hio] at hoj
            obtain rfl := Option.some.inj hoj
            rw [htri] at htrj
            obtain rfl := Option.some.inj htrj
            have hdn := hdl j o d hio hdj
            have : (a.put o.dst v).tmps.getD d undef = v := by
              have hsz := M.size
              rw [hdj]
              simp [Act.put, Array.getD, hsz, hdn]
            rw [this]; exact hvk
          · have hnd' : o.dst ≠ some d := by
              intro e
              have q1 := uniq d i o hio e
              have q2 := uniq d j oj hoj hdj
              rw [q1] at q2
              exact hji (Option.some.inj q2).symm
            have hbj' := ((hset j).1 hbj).resolve_left hji
            rw [hne v d hnd']
            exact hold _ _ (M.born j rj htrj hbj') _ (M.done j oj rj d hoj htrj hdj hbj') ⟨d, hdl j oj d hoj hdj, rfl, .inl ⟨j, oj, rj, hoj, htrj, hdj, hbj', rfl, rfl⟩⟩
        · intro t hall'
          have hall2 : ∀ (j : Nat) (oj : Oper), l[j]? = some oj → oj.dst = some t → listed.getD j false = false := by
            intro j oj hoj hdj
            have := hall' j oj hoj hdj
            cases hx : listed.getD j false with
            | false => rfl
            | true => have h4 := (hset j).2 (.inr hx); rw [this] at h4; cases h4
          have hnd' : o.dst ≠ some t := by
            intro e
            have := hall' i o hio e
            have h4 := (hset i).2 (.inl rfl)
            rw [this] at h4; cases h4
          rw [hne v t hnd']
          by_cases htn : t < n
          · exact hold _ _ (by rw [getM0]; omega) _ (M.todo t hall2) ⟨t, htn, rfl, .inr (.inl ⟨hall2, rfl, rfl⟩)⟩
          · have : (getM t fr0).2 = .any := by
              have : ∀ fr : FrM, (∀ e ∈ fr, e.1 < n) → (getM t fr).2 = .any := by
                intro fr hf
                induction fr with
                | nil => rfl
                | cons e fr ih' =>
                  obtain ⟨k', b', x'⟩ := e
                  rw [getM]
                  split
                  · rename_i hk
                    have h9 : k' < n := hf (k', b', x') List.mem_cons_self
                    exact absurd (hk ▸ h9) htn
                  · exact ih' (fun e he => hf e (List.mem_cons_of_mem _ he))
              exact this fr0 hfr
            rw [this, killR_any]
            exact .any _
        · intro e he hnw
          rw [hne v e.1 (hnw i o hio)]
          exact hold _ _ (by rw [hf0 e he]; omega) _ (M.rest e he hnw) ⟨e.1, hfr e he, rfl, .inr (.inr ⟨he, hnw⟩)⟩
        · intro j oj hoj hbj e he hbd
          rw [hset]
          rcases (hset j).1 hbj with rfl | hbj'
          · rw [hio] at hoj
            obtain rfl := Option.some.inj hoj
            exact .inr (h3 e he hbd)
          · exact .inr (M.closed j oj hoj hbj' e he hbd)
    unfold wpOp
    rw [h2]
    simp only
    cases hlo : r.loud with
    | false =>
      obtain ⟨g1, g2, g3, g4⟩ := ha2 hlo
      have hpl : r.lo ≤ p := by
        refine Classical.byContradiction fun hn => ?_
        have hp1 : p < lds.length := by omega
        have hm : lds[p] ∈ lds.take r.lo := by
          rw [List.mem_take_iff_getElem]
          exact ⟨p, by omega, rfl⟩
        have := (M.louds p _ (List.getElem?_eq_getElem hp1)).1 (hancs _ (g3 _ hm))
        omega
      have hph : p ≤ r.hi := by
        refine Classical.byContradiction fun hn => ?_
        have hp1 : r.hi < lds.length := by have := M.ple; omega
        have hl := hloud r.hi _ (List.getElem?_eq_getElem hp1)
        have hm : lds[r.hi] ∈ lds.drop r.hi := by
          rw [List.mem_drop_iff_getElem]
          exact ⟨0, by omega, by simp⟩
        have hb := (M.louds r.hi _ (List.getElem?_eq_getElem hp1)).2 (by omega)
        have := hancl _ _ (List.getElem?_eq_getElem hl.1) hb i (g4 _ hm)
        rw [h1] at this
        cases this
      have hrun := hs2 hlo p hpl hph fo m a w M.inv hslots (wpAny P .any l.toArray (Post fo n m0 w0 Q) fuel (listed.setIfInBounds i true)) (Post fo n m0 w0 Q) (fun v w' hr hi' st => by
        have hkeep : Keep w (OO fo m) w' := ⟨st.size, fun b hb ho => st.block b hb (fun h => ho (.inl h))⟩
        have mono : ∀ {v : Value} {x : V}, RelV w (OO fo m) m v x → RelV w' (OO fo m) m v x := fun h => h.mono hkeep (fun _ _ h => h) (fun _ _ h => h)
        have hbirth : r.birth ≤ p := by unfold Rec.birth; rw [hlo]; exact hpl
        refine next m p v w' (Nat.le_refl _) hi' st hr (.inr hbirth) (fun x β _ u hu _ => mono hu) M.ple (fun q j hq => ?_) ?_
        · rw [hset, ← M.louds q j hq]
          constructor
          · rintro (rfl | h)
            · exact (g2 (List.mem_of_getElem? hq)).elim
            · exact h
          · exact .inr
        · exact killR_rel _ hr)
      split
      · rename_i hw; rw [if_pos hw] at hrun; exact .inl hrun
      · rename_i hw; rw [if_neg hw] at hrun; exact hrun
    | true =>
      obtain ⟨g1, g2⟩ := ha1 hlo
      obtain ⟨hqk, hlop⟩ := hs1 hlo
      have hqp : r.q = p := by
        have e1 : ¬ r.q < p := fun h => by
          have := (M.louds r.q i g1).2 h
          rw [h1] at this; cases this
        refine Classical.byContradiction fun hn => ?_
        have hlt : p < r.q := by omega
        have hp1 : p < lds.length := by have := (List.getElem?_eq_some_iff.1 g1).1; omega
        have hm : lds[p] ∈ lds.take r.q := by
          rw [List.mem_take_iff_getElem]
          exact ⟨p, by omega, rfl⟩
        have := (M.louds p _ (List.getElem?_eq_getElem hp1)).1 (hancs _ (g2 _ hm))
        omega
      have hqp' := hqp
      subst hqp
      -- the frame that stands now
      let cur : Nat → V := fun t => match writes l t with
        | some j => if listed.getD j false = true then (match tr[j]? with | some rj => killR ks rj.birth r.q rj.x | none => .any) else killR ks (getM t fr0).1 r.q (getM t fr0).2
        | none => killR ks (getM t fr0).1 r.q (getM t fr0).2
      have hcur : ∀ t, RelV w (OO fo m) m (a.tmps.getD t undef) (cur t) := by
        intro t
        simp only [cur]
        cases hw : writes l t with
        | none => exact M.todo t (fun j o'' hj hd => (writes_none hw hj hd).elim)
        | some j =>
          obtain ⟨oj, hoj, hdj⟩ := writes_some hw
          obtain ⟨rj, htrj⟩ := htr j (List.getElem?_eq_some_iff.1 hoj).1
          simp only [htrj]
          split
          · rename_i hb; exact M.done j oj rj t hoj htrj hdj hb
          · rename_i hb
            refine M.todo t (fun j' o'' hj' hd' => ?_)
            have := uniq t j' o'' hj' hd'
            rw [hw] at this
            obtain rfl := Option.some.inj this
            simpa using hb
      let base : List (Nat × V) := (fr0.filter fun e => (writes l e.1).isNone).map fun e => (e.1, killR ks e.2.1 r.q e.2.2)
      let fr2 : List (Nat × V) := (List.range' 0 n).map (fun t => (t, cur t)) ++ base
      have hget : ∀ t, t < n → getF t fr2 = cur t := fun t ht' => getF_range n 0 (Nat.zero_le _) (by omega)
      have g2' : G fo n m ⟨fr2, Ls r.q⟩ a w := by
        refine ⟨M.size, ?_, M.inv, M.defers⟩
        intro t x hx
        rcases List.mem_append.1 hx with hx | hx
        · obtain ⟨t', ht', e⟩ := List.mem_map.1 hx
          simp only [Prod.mk.injEq] at e
          obtain ⟨rfl, rfl⟩ := e
          have : t' < n := by have := List.mem_range'.1 ht'; obtain ⟨_, _, _⟩ := this; omega
          exact ⟨this, hcur t'⟩
        · obtain ⟨e, he, hex⟩ := List.mem_map.1 hx
          simp only [Prod.mk.injEq] at hex
          obtain ⟨rfl, rfl⟩ := hex
          obtain ⟨he1, he2⟩ := List.mem_filter.1 he
          have hwn : writes l e.1 = none := by simpa using he2
          exact ⟨hfr e he1, M.rest e he1 (fun j oj hj => writes_none hwn hj)⟩
      have hlook : ∀ t, t ∈ o.looksAt l.toArray → getF t fr2 = getF t (frAt ks r.q r.fr) := by
        intro t htl
        rw [hget t (hlk o (List.mem_of_getElem? hio) t htl), getF_frAt]
        simp only [cur]
        cases hw : writes l t with
        | none => rw [ht.get_old t i r htri (fun j z _ hj => writes_none hw (hunzip j z hj))]
        | some j =>
          obtain ⟨oj, hoj, hdj⟩ := writes_some hw
          obtain ⟨rj, htrj⟩ := htr j (List.getElem?_eq_some_iff.1 hoj).1
          obtain ⟨gj, hgj⟩ := hzip j oj hoj
          simp only [htrj]
          rcases i3 t htl j hw with ⟨hlt, e, he, hb, hon⟩ | ⟨hlt, oj', hoj', e, he, hb, hon⟩
          · rw [if_pos (by rw [← hon]; exact h3 e he hb), ht.get_new t i j r rj (oj, gj) htri hlt htrj hgj hdj (fun j' z hjj _ hj' hd' => by
              have := uniq t j' z.1 (hunzip j' z hj') hd'
              rw [hw] at this
              have := Option.some.inj this
              omega)]
          · rw [if_neg, ht.get_old t i r htri (fun j' z hj' hz' hd' => by
              have := uniq t j' z.1 (hunzip j' z hz') hd'
              rw [hw] at this
              have := Option.some.inj this
              omega)]
            intro hb'
            rw [hoj] at hoj'
            obtain rfl := Option.some.inj hoj'
            have := M.closed j oj hoj hb' e he hb
            rw [hon, h1] at this
            cases this
      have fin : ∀ (m' : Nat → Option Value) (v : Value) (w' : World), RelV w' (OO fo m') m' v r.x → G fo n m' ⟨killO (ks.getD r.q none) fr2, Ls (r.q + 1)⟩ a w' → Step w (own m) w' (own m') → wpAny P .any l.toArray (Post fo n m0 w0 Q) fuel (listed.setIfInBounds i true) (a.put o.dst v) w' := by
       intro m' v w' hr g' st
       exact next m' (r.q + 1) v w' (by omega) g'.inv st hr (.inl (by unfold Rec.birth; rw [hlo]; rfl)) (by
        intro x β hβ u hu ⟨t, htn, hut, hwhich⟩
        rw [killR_succ hβ hqk]
        subst hut
        have hmem : ∀ y, (t, y) ∈ fr2 → RelV w' (OO fo m') m' (a.tmps.getD t undef) (kO (ks.getD r.q none) y) := by
          intro y hy
          exact (g'.fr t _ (List.mem_map.2 ⟨(t, y), hy, rfl⟩)).2
        have hcurm : (t, cur t) ∈ fr2 := List.mem_append_left _ (List.mem_map.2 ⟨t, List.mem_range'.2 ⟨t, by omega, by omega⟩, rfl⟩)
        rcases hwhich with ⟨j, oj, rj, hoj, htrj, hdj, hb, rfl, rfl⟩ | ⟨hall2, rfl, rfl⟩ | ⟨he, hnw⟩
        · have hw := uniq t j oj hoj hdj
          have : cur t = killR ks rj.birth r.q rj.x := by simp only [cur, hw, if_pos hb, htrj]
          rw [← this]; exact hmem _ hcurm
        · have : cur t = killR ks (getM t fr0).1 r.q (getM t fr0).2 := by
            simp only [cur]
            cases hw : writes l t with
            | none => rfl
            | some j =>
              obtain ⟨oj, hoj, hdj⟩ := writes_some hw
              simp [hall2 j oj hoj hdj]
          rw [← this]; exact hmem _ hcurm
        · refine hmem _ (List.mem_append_right _ (List.mem_map.2 ⟨(t, β, x), List.mem_filter.2 ⟨he, ?_⟩, rfl⟩))
          cases hw : writes l t with
          | none => simp [hw]
          | some j =>
            obtain ⟨oj, hoj, hdj⟩ := writes_some hw
            exact (hnw j oj hoj hdj).elim)
        (by have := (List.getElem?_eq_some_iff.1 g1).1; omega) (fun q j hq => by
          rw [hset, M.louds q j hq]
          constructor
          · rintro (rfl | h)
            · have e1 := List.getElem?_eq_some_iff.1 hq
              have e2 := List.getElem?_eq_some_iff.1 g1
              have := (List.getElem_inj hnd).1 (e1.2.trans e2.2.symm)
              omega
            · omega
          · intro h
            rcases Nat.lt_or_ge q r.q with h' | h'
            · exact .inr h'
            · obtain rfl : q = r.q := by omega
              rw [g1] at hq
              exact .inl (Option.some.inj hq).symm)
        (by rw [killR_self (by unfold Rec.birth; rw [hlo]; exact Nat.le_refl _)]; exact hr)
      rcases hlop fr2 hlook fo m a w g2' with ⟨hw, hrun⟩ | ⟨hw, hk0, hL0, hr⟩
      · rw [if_pos hw]
        exact .inl (hrun _ _ fun v w' m' hr g' st => fin m' v w' hr g' st)
      · rw [if_neg (by rw [hw]; simp)]
        refine fin m undef w hr ?_ (Step.refl w _)
        rw [hk0, hL0, killO_none]
        exact g2'

end
end Go.Ab
