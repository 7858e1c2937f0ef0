import Derived.Test.YtfcflgiignjlgaaAbHlaws
set_option linter.unusedSimpArgs false
set_option linter.unusedVariables false
namespace Go.Ab
open Go.Proofs

/-! ### The commands lead to a state that is won -/
section
variable {g : GGraph} {far : List Int}

theorem nx_ex (law : FarLaw g.States.length (goods g) (won g) far) {p : Int} (hp : 0 ≤ p ∧ p < g.States.length) (h : 0 < far.getD p.toNat 0) : ∃ e, nx g far p = some e := by
  obtain ⟨e, he, h1, h2⟩ := law.next p.toNat (by omega) h
  have hm := List.mem_filter.1 he
  have hg := goodE_iff.1 hm.2
  have hok : edgeOk g.States.length far p e = true := by
    unfold edgeOk
    simp only [hm.2, Bool.true_and, Bool.and_eq_true, decide_eq_true_eq]
    exact ⟨⟨by omega, h⟩, h2⟩
  unfold nx
  cases hx : g.Edges.find? (edgeOk g.States.length far p) with
  | some e => exact ⟨e, rfl⟩
  | none => exact absurd hok (by simpa using List.find?_eq_none.1 hx e hm.1)

/-- What is known after k commands. -/
structure WK (g : GGraph) (far : List Int) (i : Int) (k : Nat) : Prop where
  len : (walkN g far i k).2.length = k
  pos : 0 ≤ (walkN g far i k).1 ∧ (walkN g far i k).1 < g.States.length
  far : far.getD (walkN g far i k).1.toNat 0 = far.getD i.toNat 0 - k

theorem wk_step (law : FarLaw g.States.length (goods g) (won g) far) {i : Int} {k : Nat} (h : WK g far i k) (hk : k < farAt far i) :
    WK g far i (k + 1) ∧ ∃ e ∈ g.Edges, goodE g.States.length e = true ∧ e.From = (walkN g far i k).1 ∧ walkN g far i (k + 1) = (e.To, (walkN g far i k).2 ++ [e.Cmd]) := by
  obtain ⟨e, he⟩ := nx_ex law h.pos (by rw [h.far]; unfold farAt at hk; omega)
  obtain ⟨h1, h2, h3, h4, h5⟩ := nx_some he
  have hw : walkN g far i (k + 1) = (e.To, (walkN g far i k).2 ++ [e.Cmd]) := by rw [walkN]; unfold walkS; rw [he]
  have hg := goodE_iff.1 h2
  have hf := h.far
  refine ⟨⟨by rw [hw]; simp [h.len], by rw [hw]; exact hg.2, ?_⟩, e, h1, h2, h3, hw⟩
  rw [hw]
  show far.getD e.To.toNat 0 = _
  rw [h5, hf]; push_cast; omega

theorem wk_all (law : FarLaw g.States.length (goods g) (won g) far) {i : Int} (hi : 0 ≤ i ∧ i < g.States.length) : ∀ k, k ≤ farAt far i → WK g far i k
  | 0, _ => ⟨rfl, hi, by simp [walkN]⟩
  | k + 1, h => (wk_step law (wk_all law hi k (by omega)) (by omega)).1

theorem rest_len (law : FarLaw g.States.length (goods g) (won g) far) {i : Int} (hi : 0 ≤ i ∧ i < g.States.length) : (restM g far i).length = farAt far i := (wk_all law hi _ (Nat.le_refl _)).len

theorem rest_take (law : FarLaw g.States.length (goods g) (won g) far) {i : Int} (hi : 0 ≤ i ∧ i < g.States.length) : ∀ d k, k + d = farAt far i → (restM g far i).take k = (walkN g far i k).2
  | 0, k, h => by
    have : k = farAt far i := by omega
    subst this
    rw [List.take_of_length_le (by rw [rest_len law hi]; exact Nat.le_refl _)]; rfl
  | d + 1, k, h => by
    have h1 := rest_take law hi d (k + 1) (by omega)
    obtain ⟨_, e, _, _, _, hw⟩ := wk_step law (wk_all law hi k (by omega)) (by omega)
    have hl := (wk_all law hi k (by omega)).len
    have : (restM g far i).take k = ((restM g far i).take (k + 1)).take k := by rw [List.take_take, Nat.min_eq_left (by omega)]
    rw [this, h1, hw]
    simp [hl]
end

/-! ### The sets of states -/
def atCond (n : Nat) (at_ : List Bool) (c : GCmd) (e : GEdge) : Bool :=
  decide (0 ≤ e.From) && decide (e.From < n) && decide (0 ≤ e.To) && decide (e.To < n) && at_[e.From.toNat]?.getD false && decide (e.Cmd = c)
def atStep (n : Nat) (at_ : List Bool) (c : GCmd) (nxt : List Bool) (e : GEdge) : List Bool := if atCond n at_ c e then nxt.set e.To.toNat true else nxt
def atNext (g : GGraph) (at_ : List Bool) (c : GCmd) : List Bool := g.Edges.foldl (atStep g.States.length at_ c) (List.replicate g.States.length false)
def at0 (g : GGraph) (i : Int) : List Bool := (List.replicate g.States.length false).set i.toNat true
def atN (g : GGraph) (i : Int) (l : List GCmd) : List Bool := l.foldl (atNext g) (at0 g i)

theorem atStep_len {n : Nat} {at_ nxt : List Bool} {c : GCmd} {e : GEdge} : (atStep n at_ c nxt e).length = nxt.length := by unfold atStep; split <;> simp
theorem atFold_len {n : Nat} {at_ : List Bool} {c : GCmd} : ∀ (es : List GEdge) (nxt : List Bool), (es.foldl (atStep n at_ c) nxt).length = nxt.length
  | [], _ => rfl
  | e :: es, nxt => by rw [List.foldl_cons, atFold_len es, atStep_len]
theorem atNext_len (g : GGraph) (at_ : List Bool) (c : GCmd) : (atNext g at_ c).length = g.States.length := by unfold atNext; rw [atFold_len]; simp
theorem atN_len (g : GGraph) (i : Int) : ∀ l : List GCmd, (atN g i l).length = g.States.length := by
  intro l
  unfold atN
  have : ∀ (l : List GCmd) (a : List Bool), a.length = g.States.length → (l.foldl (atNext g) a).length = g.States.length := by
    intro l
    induction l with
    | nil => intro a h; exact h
    | cons c l ih => intro a _; exact ih _ (atNext_len g a c)
  exact this l _ (by simp [at0])

theorem atFold_keep {n : Nat} {at_ : List Bool} {c : GCmd} {v : Nat} : ∀ (es : List GEdge) (nxt : List Bool), nxt[v]?.getD false = true → (es.foldl (atStep n at_ c) nxt)[v]?.getD false = true
  | [], _, h => h
  | e :: es, nxt, h => by
    refine atFold_keep es _ ?_
    unfold atStep
    split
    · rw [List.getElem?_set]
      split
      · split
        · rfl
        · rename_i h1 h2; rw [← h1, List.getElem?_eq_none (by omega)] at h; cases h
      · exact h
    · exact h
theorem atFold_hit {n : Nat} {at_ : List Bool} {c : GCmd} {e : GEdge} (he : atCond n at_ c e = true) : ∀ (es : List GEdge) (nxt : List Bool), nxt.length = n → e ∈ es → (es.foldl (atStep n at_ c) nxt)[e.To.toNat]?.getD false = true
  | [], _, _, h => by cases h
  | e' :: es, nxt, hl, h => by
    rw [List.foldl_cons]
    rcases List.mem_cons.1 h with rfl | h
    · refine atFold_keep es _ ?_
      unfold atStep
      rw [if_pos he]
      have hc := he
      simp only [atCond, Bool.and_eq_true, decide_eq_true_eq] at hc
      rw [List.getElem?_set, if_pos rfl, if_pos (by omega)]
      rfl
    · exact atFold_hit he es _ (by rw [atStep_len, hl]) h

theorem at_walk {g : GGraph} {far : List Int} (law : FarLaw g.States.length (goods g) (won g) far) {i : Int} (hi : 0 ≤ i ∧ i < g.States.length) : ∀ k, k ≤ farAt far i →
    (atN g i (walkN g far i k).2)[(walkN g far i k).1.toNat]?.getD false = true
  | 0, _ => by
    simp only [walkN, atN, List.foldl_nil, at0]
    rw [List.getElem?_set, if_pos rfl, if_pos (by simp; omega)]
    rfl
  | k + 1, h => by
    have ih := at_walk law hi k (by omega)
    obtain ⟨_, e, he, hg, hf, hw⟩ := wk_step law (wk_all law hi k (by omega)) (by omega)
    rw [hw]
    show (atN g i ((walkN g far i k).2 ++ [e.Cmd]))[e.To.toNat]?.getD false = true
    have ha : atN g i ((walkN g far i k).2 ++ [e.Cmd]) = atNext g (atN g i (walkN g far i k).2) e.Cmd := by unfold atN; rw [List.foldl_append]; rfl
    rw [ha]
    unfold atNext
    refine atFold_hit ?_ g.Edges _ (by simp) he
    have hgi := goodE_iff.1 hg
    unfold atCond
    rw [hf, ih, ← hf]
    simp [hgi.1.1, hgi.1.2, hgi.2.1, hgi.2.2]

def wonN (g : GGraph) (at_ : List Bool) (k : Nat) : Bool := (List.range k).any fun j => at_[j]?.getD false && won g j
theorem wonN_succ (g : GGraph) (at_ : List Bool) (k : Nat) : wonN g at_ (k + 1) = (wonN g at_ k || (at_[k]?.getD false && won g k)) := by
  unfold wonN
  rw [List.range_succ, List.any_append]
  simp

theorem won_end {g : GGraph} {far : List Int} (law : FarLaw g.States.length (goods g) (won g) far) {i : Int} (hi : 0 ≤ i ∧ i < g.States.length) :
    wonN g (atN g i (restM g far i)) g.States.length = decide (0 ≤ far.getD i.toNat 0) := by
  by_cases h0 : 0 ≤ far.getD i.toNat 0
  · rw [decide_eq_true h0]
    have hk := wk_all law hi _ (Nat.le_refl _)
    have ha := at_walk law hi _ (Nat.le_refl _)
    have hf := hk.far
    have hz : far.getD (walkN g far i (farAt far i)).1.toNat 0 = 0 := by rw [hf]; unfold farAt; omega
    have hw := (law.zero _ (by have := hk.pos; omega)).1 hz
    unfold wonN
    rw [List.any_eq_true]
    exact ⟨(walkN g far i (farAt far i)).1.toNat, by have := hk.pos; simp; omega, by unfold restM; rw [ha, hw]; rfl⟩
  · rw [decide_eq_false h0]
    have hr : restM g far i = [] := by
      have := rest_len law hi
      have hz : farAt far i = 0 := by unfold farAt; omega
      rw [hz] at this
      exact List.length_eq_zero_iff.1 this
    rw [hr]
    unfold wonN
    rw [List.any_eq_false]
    intro j hj
    simp only [atN, List.foldl_nil, at0]
    rw [List.getElem?_set]
    simp only [List.length_replicate]
    split
    · rename_i hij
      subst hij
      have hw : won g i.toNat = false := by
        cases hx : won g i.toNat with
        | false => rfl
        | true => have := (law.zero i.toNat (by omega)).2 hx; omega
      simp [hw]
    · rw [List.getElem?_replicate]
      split <;> simp

set_option maxRecDepth 20000 in
theorem hintWins_ok (g : GGraph) (i : Int) : Pure Try.prog 4 [.agg (g.enc.map .d), .d (.v (.int .i64 i))] (.d (.v (.bool true))) := by
  refine Pure.run Try.func4 rfl (by simp [Try.f4]) ?_; simp [Try.f4]
  intro bs
  refine AOps.pureC rfl (few_ok g) (by simp) rfl (by simp) rfl ?_
  cases hf : (decide (g.States.length ≤ 60) && decide (g.Edges.length ≤ 400)) with
  | false =>
    simp
    refine AOps.pureC rfl (awake_ok) (by simp) rfl (by simp) rfl ?_
    simp
  | true =>
    obtain ⟨hs, he, -⟩ := few_split g hf
    by_cases hi0 : i < 0
    · simp [hi0]
      refine AOps.pureC rfl (awake_ok) (by simp) rfl (by simp) rfl ?_
      simp
    by_cases hin : (g.States.length : Int) ≤ i
    · simp [hin]
      refine AOps.pureC rfl (awake_ok) (by simp) rfl (by simp) rfl ?_
      simp
    · have c1 : decide (i < 0) = false := by simpa using hi0
      have c2 : decide ((g.States.length : Int) ≤ i) = false := by simpa using hin
      have hi : 0 ≤ i ∧ i < g.States.length := ⟨by omega, by omega⟩
      have hiN : i.toNat < g.States.length := by omega
      simp [c1, c2]
      refine AOps.pureC rfl (far_ok g hs he) (by simp) rfl (by simp) rfl ?_
      simp
      refine AOps.pureC rfl (rest_ok g i hs he) (by simp) rfl (by simp) rfl ?_
      have law := far_law g
      have hfl := farM_len g
      have hfb := farM_bound g
      have hrl := rest_len law hi
      have hwon := won_end law hi
      have hfa : farAt (farM g) i ≤ 1000000 := by
        unfold farAt
        rw [List.getD_eq_getElem?_getD]
        cases hx : (farM g)[i.toNat]? with
        | none => simp
        | some v => have := hfb v (List.mem_of_getElem? hx); simp; omega
      generalize farM g = far at law hfl hfb hrl hwon hfa
      generalize restM g far i = l at hrl hwon
      unfold farAt at hrl hfa
      rw [List.getD_eq_getElem?_getD] at hrl hfa hwon
      simp [hfl]
      have hml : (l.length : Int) = if 0 < far[i.toNat]?.getD 0 then far[i.toNat]?.getD 0 else 0 := by rw [hrl]; split <;> omega
      have hll : l.length ≤ 1000000 := by omega
      refine ⟨⟨hi.1, hiN⟩, hml, fun _ => ⟨⟨by unfold maxLen; omega, by omega⟩, ⟨hi.1, hiN⟩, hiN, ?_⟩⟩
      refine AWP.loopW l.length (fun k => ⟨[(61, .d (.v (.int .i64 k))), (60, .d (.v (.int .i64 l.length))), (59, .d (.sl (l.map GCmd.enc))), (7, .d (.sl (encB (atN g i (l.take k))))), (5, .d (.sl (encI far))), (2, .bp 2 0), (1, .d (.v (.int .i64 i)))],
        [(2, .box (bs 0 + 1) 25 (g.enc.map .d))]⟩) (fun _ => True) ⟨trivial, ?_⟩ ?_
      · exact (Wk.freeze 55 (ys := encB (at0 g i)) rfl).trans (Wk.pick [61, 60, 59, 7, 5, 2, 1] [2] rfl (by simp) rfl)
      intro k hk _
      rcases Nat.lt_or_eq_of_le hk with hlt | rfl
      · have htk : l.take (k + 1) = l.take k ++ [l[k]] := by rw [List.take_add_one, List.getElem?_eq_getElem hlt]; rfl
        have hat : atN g i (l.take (k + 1)) = atNext g (atN g i (l.take k)) l[k] := by rw [htk]; unfold atN; rw [List.foldl_append]; rfl
        have hal := atN_len g i (l.take k)
        simp [hlt]
        generalize hc : l[k] = c at hat
        generalize atN g i (l.take k) = at_ at hal hat
        intro bs1
        refine ⟨⟨by unfold maxLen; omega, by omega⟩, ?_⟩
        refine AWP.loopS [1, 2, 5, 7, 9, 10, 59, 60, 61, 70, 71, 72] g.Edges.length (fun j => [(72, .d (.v (.int .i64 j)))]) (fun j => [(68, .row 4 1 (dd (encB ((g.Edges.take j).foldl (atStep g.States.length at_ c) (List.replicate g.States.length false)))))]) (fun _ => True) (by rfl) (by simp) ?_
        intro j hj _
        rcases Nat.lt_or_eq_of_le hj with hjl | rfl
        · have hetk : g.Edges.take (j + 1) = g.Edges.take j ++ [g.Edges[j]] := by rw [List.take_add_one, List.getElem?_eq_getElem hjl]; rfl
          have hfo : (g.Edges.take (j + 1)).foldl (atStep g.States.length at_ c) (List.replicate g.States.length false) = atStep g.States.length at_ c ((g.Edges.take j).foldl (atStep g.States.length at_ c) (List.replicate g.States.length false)) g.Edges[j] := by
            rw [hetk, List.foldl_append]; rfl
          have hfol : ((g.Edges.take j).foldl (atStep g.States.length at_ c) (List.replicate g.States.length false)).length = g.States.length := by rw [atFold_len]; simp
          simp [hjl]
          generalize hE : g.Edges[j] = e at hfo
          generalize (g.Edges.take j).foldl (atStep g.States.length at_ c) (List.replicate g.States.length false) = nxt at hfol hfo
          have a4 : inR .i64 ((j : Int) + 1) := by rw [inR_i64]; omega
          simp [hal, hfol]
          refine ⟨fun h1 h2 h3 h4 => ⟨⟨h1, by omega⟩, ⟨⟨h1, h2⟩, h3⟩, h4⟩, fun h1 h2 h3 h4 h5 h6 => ?_, fun h => ⟨a4, ?_⟩⟩
          · have hcond : atCond g.States.length at_ c e = true := by simp [atCond, h1, h2, h3, h4, h5, h6]
            have hst : atStep g.States.length at_ c nxt e = nxt.set e.To.toNat true := by unfold atStep; rw [if_pos hcond]
            rw [hfo, hst]
            refine ⟨⟨h3, by omega⟩, by omega, a4, rfl⟩
          · have hcond : atCond g.States.length at_ c e = false := by
              rw [Bool.eq_false_iff]
              intro h'
              simp only [atCond, Bool.and_eq_true, decide_eq_true_eq] at h'
              exact h h'.1.1.1.1.1 h'.1.1.1.1.2 h'.1.1.1.2 h'.1.1.2 h'.1.2 h'.2
            have hst : atStep g.States.length at_ c nxt e = nxt := by unfold atStep; rw [if_neg (by rw [hcond]; simp)]
            rw [hfo, hst]
        · simp
          refine ⟨by rw [inR_i64]; omega, hlt, ?_⟩
          rw [hat]
          exact (Wk.freeze 68 (ys := encB (atNext g at_ c)) rfl).trans (Wk.pick [61, 60, 59, 7, 5, 2, 1] [2] rfl (by simp) rfl)
      · simp
        have hal := atN_len g i l
        generalize atN g i l = at_ at hwon hal
        refine AWP.loopS [1, 5, 7, 13, 119, 120, 121] g.States.length (fun j => [(121, .d (.v (.int .i64 j))), (13, .d (.v (.bool (wonN g at_ j))))]) (fun j => []) (fun _ => True) (by rfl) (by simp [wonN]) ?_
        intro j hj _
        rcases Nat.lt_or_eq_of_le hj with hjl | rfl
        · have hwj : won g j = decide ((g.States[j]).Over = 1) := by simp [won, List.getElem?_eq_getElem hjl]
          simp [hjl]
          generalize hE : g.States[j] = e at hwj
          have a4 : inR .i64 ((j : Int) + 1) := by rw [inR_i64]; omega
          simp [hal, a4, hjl, wonN_succ, hwj]
          exact ⟨fun h => ⟨fun h' => ⟨h, h'⟩, h⟩, rfl⟩
        · simp
          refine ⟨⟨hi.1, by omega⟩, ?_⟩
          rw [hwon]
          refine runC_sound _ _ [.d (.v (.bool true))] (by rfl) ?_
          simp [awake_ok.ok]
end Go.Ab
