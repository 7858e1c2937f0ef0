import Derived.Test.YticchnalleplcaaAbGfew
set_option linter.unusedSimpArgs false
set_option linter.unusedVariables false
namespace Go.Ab
open Go.Proofs

/-! ### Depth -/
mutual
def deepM : GExpr → Int → Int
  | .mk _ _ _ _ l, m => (if 1 < m then deepsM l (m - 1) 0 else 0) + 1
def deepsM : List GExpr → Int → Int → Int
  | [], _, n => n
  | x :: l, m, n => deepsM l m (if n < deepM x m then deepM x m else n)
end
theorem deepM_eq (e : GExpr) (m : Int) : deepM e m = (if 1 < m then deepsM e.Args (m - 1) 0 else 0) + 1 := by cases e; rw [deepM]; rfl
theorem deepsM_snoc (l : List GExpr) (x : GExpr) (m n : Int) : deepsM (l ++ [x]) m n = if deepsM l m n < deepM x m then deepM x m else deepsM l m n := by
  induction l generalizing n with
  | nil => simp only [List.nil_append, deepsM]; rfl
  | cons y l ih => simp only [List.cons_append, deepsM]; exact ih _
theorem deepM_le (e : GExpr) (m : Int) (hm : 1 ≤ m) : 1 ≤ deepM e m ∧ deepM e m ≤ m := by
  obtain ⟨n, hn⟩ : ∃ n, SizeOf.sizeOf e < n := ⟨_, Nat.lt_succ_self _⟩
  induction n generalizing e m with
  | zero => omega
  | succ n ih =>
    rw [deepM_eq]
    split
    · have : ∀ (l : List GExpr) (k : Int), (∀ x ∈ l, x ∈ e.Args) → 0 ≤ k → k ≤ m - 1 → 0 ≤ deepsM l (m - 1) k ∧ deepsM l (m - 1) k ≤ m - 1 := by
        intro l
        induction l with
        | nil => intro k _ h1 h2; rw [deepsM]; omega
        | cons x l ih' =>
          intro k hx h1 h2
          rw [deepsM]
          have := ih x (m - 1) (by omega) (by have := GExpr.lt_of_mem (hx x (by simp)); omega)
          apply ih' _ (fun y hy => hx y (by simp [hy]))
          · split <;> omega
          · split <;> omega
      have := this e.Args 0 (fun _ h => h) (by omega) (by omega)
      omega
    · omega
theorem deepsM_le (l : List GExpr) (m k : Int) (hm : 1 ≤ m) (h1 : 0 ≤ k) (h2 : k ≤ m) : 0 ≤ deepsM l m k ∧ deepsM l m k ≤ m := by
  induction l generalizing k with
  | nil => rw [deepsM]; omega
  | cons x l ih =>
    rw [deepsM]
    have := deepM_le x m hm
    apply ih
    · split <;> omega
    · split <;> omega

theorem deep_ok (e : GExpr) (he : e.wf) (m : Int) (hm : 1 ≤ m ∧ m ≤ 1000000) : Pure Try.prog 88 [.agg (e.enc.map .d), .d (.v (.int .i64 m))] (.d (.v (.int .i64 (deepM e m)))) := by
  obtain ⟨n, hn⟩ : ∃ n, SizeOf.sizeOf e < n := ⟨_, Nat.lt_succ_self _⟩
  induction n generalizing e m with
  | zero => omega
  | succ n ih =>
    have hw := (GExpr.wf_iff e).1 he
    have hlen : e.Args.length ≤ 2199023255488 := by omega
    have hsub : ∀ (i : Nat) (h : i < e.Args.length) m, 1 ≤ m ∧ m ≤ 1000000 → Pure Try.prog 88 [.agg ((e.Args[i]).enc.map .d), .d (.v (.int .i64 m))] (.d (.v (.int .i64 (deepM (e.Args[i]) m)))) := fun i h m hm =>
      ih _ (hw.2.2.2.2.2 _ (List.getElem_mem h)) m hm (by have := GExpr.lt_of_mem (List.getElem_mem h); omega)
    rw [deepM_eq]
    refine Pure.run Try.func88 rfl (by simp [Try.f88]) ?_; simp [Try.f88]
    generalize e.Args = l at *
    intro bs
    refine ⟨fun h1 => ?_, fun h1 => ?_⟩
    · refine AWP.loopS [1, 5, 12, 13, 14] l.length (fun i => [(5, .d (.v (.int .i64 (deepsM (l.take i) (m - 1) 0)))), (14, .d (.v (.int .i64 i)))]) (fun _ => []) (fun _ => True) (by rfl) (by simp [deepsM]) ?_
      intro i hi _
      rcases Nat.lt_or_eq_of_le hi with hlt | rfl
      · have hge : l[i]? = some l[i] := List.getElem?_eq_getElem hlt
        have htk : List.take (i + 1) l = List.take i l ++ [l[i]] := by rw [List.take_add_one, hge]; rfl
        have hS := hsub i hlt
        generalize hE : l[i] = x at *
        have a1 : inR .i64 (m - 1) := by rw [inR_i64]; omega
        have a2 : inR .i64 ((i : Int) + 1) := by rw [inR_i64]; omega
        have hsn := deepsM_snoc (l.take i) x (m - 1) 0
        rw [← htk] at hsn
        generalize hM : deepsM (l.take i) (m - 1) 0 = k at *
        simp [hlt, hge, hE]
        intro bs2
        refine ⟨a1, ?_⟩
        refine AOps.pureC rfl (hS (m - 1) ⟨by omega, by omega⟩) (by simp) rfl (by simp) rfl ?_
        simp [a2, hlt]
        refine ⟨fun h => ?_, fun h => ?_⟩
        · rw [hsn, if_pos h]
        · rw [hsn, if_neg (by omega)]
      · have := deepsM_le l (m - 1) 0 (by omega) (by omega) (by omega)
        simp [h1]
        rw [inR_i64]; omega
    · rw [if_neg (by omega)]; exact ⟨by rw [inR_i64]; omega, rfl⟩
theorem depth_ok (e : GExpr) (he : e.wf) : Pure Try.prog 57 [.agg (e.enc.map .d)] (.d (.v (.int .i64 (deepM e 65)))) := by
  refine Pure.run Try.func57 rfl (by simp [Try.f57]) ?_; simp [Try.f57]
  intro bs
  refine AOps.pureC rfl (deep_ok e he 65 (by omega)) (by simp) rfl (by simp) rfl ?_
  simp

/-! ### bound -/
def bareM (e : GExpr) (n : Int) (op num named : Bool) : Bool := decide ((e.Args.length : Int) = n) && (op || decide (e.Op = 0)) && (num || decide (e.Num = 0)) && (named || e.Name.toList.isEmpty)
theorem bare_ok (e : GExpr) (n : Int) (op num named : Bool) : Pure Try.prog 89 [.agg (e.enc.map .d), .d (.v (.int .i64 n)), .d (.v (.bool op)), .d (.v (.bool num)), .d (.v (.bool named))] (.d (.v (.bool (bareM e n op num named)))) := by
  refine Pure.run Try.func89 rfl (by simp [Try.f89]) ?_; simp [Try.f89]
  refine ⟨?_, ?_, ?_, rfl⟩ <;> simp +contextual
def amongM (n lo hi : Int) : Bool := decide (lo ≤ n) && decide (n ≤ hi)
theorem among_ok (n lo hi : Int) : Pure Try.prog 91 [.d (.v (.int .i64 n)), .d (.v (.int .i64 lo)), .d (.v (.int .i64 hi))] (.d (.v (.bool (amongM n lo hi)))) := by
  refine Pure.run Try.func91 rfl (by simp [Try.f91]) ?_; simp [Try.f91]
  rfl
def isM (n : Int) : Bool := decide (-32768 ≤ n) && decide (n ≤ 32767)
theorem is_ok (n : Int) : Pure Try.prog 90 [.d (.v (.int .i64 n))] (.d (.v (.bool (isM n)))) := by
  refine Pure.run Try.func90 rfl (by simp [Try.f90]) ?_; simp [Try.f90]
  rfl
def paramsM (t : GTables) (f : Int) : Int := if amongM f 0 (t.Funcs.length - 1) && amongM (t.Funcs[f.toNat]?.getD 0) 0 (t.Params.length - 1) then t.Params[(t.Funcs[f.toNat]?.getD 0).toNat]?.getD 0 else -1
theorem params_ok (t : GTables) (ht : t.wf) (f : Int) : Pure Try.prog 92 [.agg (t.enc.map .d), .d (.v (.int .i64 f))] (.d (.v (.int .i64 (paramsM t f)))) := by
  refine Pure.run Try.func92 rfl (by simp [Try.f92]) ?_; simp [Try.f92]
  intro bs
  refine AWP.regionD [.d (.v (.bool (amongM f 0 (t.Funcs.length - 1)))), .d (.v (.bool (amongM (t.Funcs[f.toNat]?.getD 0) 0 (t.Params.length - 1))))] Try.mixed (by kernel_rfl) (by rfl) ?_
  have hA := fun a b c L => (among_ok a b c).ok L
  have hl1 := GTables.wl_Funcs ht
  have hl2 := GTables.wl_Params ht
  have a1 : inR .i64 ((t.Funcs.length : Int) - 1) := by rw [inR_i64]; omega
  have a2 : inR .i64 ((t.Params.length : Int) - 1) := by rw [inR_i64]; omega
  have hk : amongM f 0 (t.Funcs.length - 1) = true → 0 ≤ f ∧ f.toNat < t.Funcs.length := by simp [amongM]; omega
  have hk2 : amongM (t.Funcs[f.toNat]?.getD 0) 0 (t.Params.length - 1) = true → 0 ≤ t.Funcs[f.toNat]?.getD 0 ∧ (t.Funcs[f.toNat]?.getD 0).toNat < t.Params.length := by simp [amongM]; omega
  unfold paramsM
  simp [hA, a1, a2]
  refine ⟨fun h => ⟨hk h, h⟩, fun h h1 h2 => ?_, fun h1 h2 => ?_⟩
  · simp [h1, h2] at h
  · refine AWP.regionD [] Try.mixed (by kernel_rfl) (by rfl) ?_
    simp [h1, h2]
    exact ⟨hk h1, hk2 h2⟩
/-! ### bound -/
def boundK (t : GTables) (e : GExpr) (locals : Int) (said : Bool) : Bool :=
  if e.Kind = 1 then bareM e 0 false true false && isM e.Num
  else if e.Kind = 14 then bareM e 0 false true false && amongM e.Num 0 (t.Globals.length - 1)
  else if e.Kind = 15 then bareM e 0 false true false && decide (0 ≤ e.Num) && decide (e.Num < locals)
  else if e.Kind = 19 then said && bareM e 0 false true false && amongM e.Num 0 (t.Texts.length - 1)
  else if e.Kind = 4 ∨ e.Kind = 5 ∨ e.Kind = 11 then bareM e 1 false false false
  else if e.Kind = 13 then said && bareM e 1 false false false
  else if e.Kind = 6 then bareM e 2 true false false && amongM e.Op 1 14
  else if e.Kind = 16 then bareM e 1 false true false && decide (0 ≤ e.Num) && decide (e.Num < t.Flags)
  else if e.Kind = 17 then bareM e 1 false true false && amongM e.Num 0 (t.Props.length - 1)
  else if e.Kind = 18 then bareM e e.Args.length false true false && decide (paramsM t e.Num = e.Args.length)
  else if e.Kind = 10 then bareM e 1 true false false && amongM e.Op 1 3
  else if e.Kind = 12 then bareM e 0 true false false && amongM e.Op 1 6
  else false
mutual
def boundM (t : GTables) (locals : Int) : GExpr → Bool → Bool
  | .mk k o n s l, said => boundK t (.mk k o n s l) locals said && boundsM t locals l
def boundsM (t : GTables) (locals : Int) : List GExpr → Bool
  | [] => true
  | x :: l => boundM t locals x false && boundsM t locals l
end
theorem boundM_eq (t : GTables) (locals : Int) (e : GExpr) (said : Bool) : boundM t locals e said = (boundK t e locals said && boundsM t locals e.Args) := by cases e; rw [boundM]; rfl
theorem boundsM_all (t : GTables) (locals : Int) (l : List GExpr) : boundsM t locals l = l.all fun x => boundM t locals x false := by
  induction l with
  | nil => rw [boundsM]; rfl
  | cons x l ih => rw [boundsM, ih]; rfl

set_option maxRecDepth 20000 in
set_option maxHeartbeats 4000000 in
theorem boundX_ok (t : GTables) (ht : t.wf) (locals : Int) (e : GExpr) (he : e.wf) (said : Bool) : Pure Try.prog 58 [.agg (t.enc.map .d), .agg (e.enc.map .d), .d (.v (.int .i64 locals)), .d (.v (.bool said))] (.d (.v (.bool (boundM t locals e said)))) := by
  obtain ⟨n, hn⟩ : ∃ n, SizeOf.sizeOf e < n := ⟨_, Nat.lt_succ_self _⟩
  induction n generalizing e said with
  | zero => omega
  | succ n ih =>
    have hw := (GExpr.wf_iff e).1 he
    have hlen : e.Args.length ≤ 2199023255488 := by omega
    have hsub : ∀ (i : Nat) (h : i < e.Args.length) said, Pure Try.prog 58 [.agg (t.enc.map .d), .agg ((e.Args[i]).enc.map .d), .d (.v (.int .i64 locals)), .d (.v (.bool said))] (.d (.v (.bool (boundM t locals (e.Args[i]) said)))) := fun i h said =>
      ih _ (hw.2.2.2.2.2 _ (List.getElem_mem h)) said (by have := GExpr.lt_of_mem (List.getElem_mem h); omega)
    rw [boundM_eq]
    have hA := fun a b c L => (among_ok a b c).ok L
    have hI := fun a L => (is_ok a).ok L
    have hB := fun n a b c L => (bare_ok e n a b c).ok L
    have hP := fun f L => (params_ok t ht f).ok L
    have b1 := GTables.wl_Globals ht
    have b2 := GTables.wl_Texts ht
    have b3 := GTables.wl_Props ht
    have a1 : inR .i64 ((t.Globals.length : Int) - 1) := by rw [inR_i64]; omega
    have a2 : inR .i64 ((t.Texts.length : Int) - 1) := by rw [inR_i64]; omega
    have a3 : inR .i64 ((t.Props.length : Int) - 1) := by rw [inR_i64]; omega
    by_cases hk1 : e.Kind = 1
    · have hk := hk1; clear hk1
      have hK : boundK t e locals said = boundK t e locals said := rfl
      conv at hK => rhs; unfold boundK
      simp [hk] at hK
      refine Pure.run Try.func58 rfl (by simp [Try.f58]) ?_; simp [Try.f58, hk]
      intro bs
      refine runC_sound _ _ [.d (.v (.bool (bareM e 0 false true false))), .d (.v (.bool (isM e.Num)))] (by rfl) ?_
      simp [hA, hB, hI, hP, a1, a2, a3]
      refine AWP.loopS [2, 4, 9, 154, 155, 156] e.Args.length (fun i => [(9, .d (.v (.bool (boundK t e locals said && boundsM t locals (e.Args.take i))))), (156, .d (.v (.int .i64 i)))]) (fun _ => []) (fun _ => True) (by rfl) (by simp [hK, boundsM]) ?_
      clear hK hA hI hB hP a1 a2 a3 b1 b2 b3
      generalize boundK t e locals said = b
      intro i hi _
      rcases Nat.lt_or_eq_of_le hi with hlt | rfl
      · have hge : e.Args[i]? = some e.Args[i] := List.getElem?_eq_getElem hlt
        have htk : boundsM t locals (e.Args.take (i + 1)) = (boundsM t locals (e.Args.take i) && boundM t locals e.Args[i] false) := by
          rw [List.take_add_one, hge, boundsM_all, boundsM_all, List.all_append]; simp
        have hS := fun L => (hsub i hlt false).ok L
        have a2 : inR .i64 ((i : Int) + 1) := by rw [inR_i64]; omega
        generalize hE : e.Args[i] = x at *
        simp [hlt, hge, hE]
        intro bs2
        refine runC_sound _ _ [.d (.v (.bool (boundM t locals x false)))] (by rfl) ?_
        simp [hS, a2, hlt, hE, htk, Bool.and_assoc] <;> (intro h1 h2; first | exact ⟨h1, h2⟩ | exact ⟨⟨h1, h2⟩, hS _⟩)
      · simp
    by_cases hk14 : e.Kind = 14
    · have hk := hk14; clear hk1 hk14
      have hK : boundK t e locals said = boundK t e locals said := rfl
      conv at hK => rhs; unfold boundK
      simp [hk] at hK
      refine Pure.run Try.func58 rfl (by simp [Try.f58]) ?_; simp [Try.f58, hk]
      intro bs
      refine runC_sound _ _ [.d (.v (.bool (bareM e 0 false true false))), .d (.v (.bool (amongM e.Num 0 (t.Globals.length - 1))))] (by rfl) ?_
      simp [hA, hB, hI, hP, a1, a2, a3]
      refine AWP.loopS [2, 4, 9, 154, 155, 156] e.Args.length (fun i => [(9, .d (.v (.bool (boundK t e locals said && boundsM t locals (e.Args.take i))))), (156, .d (.v (.int .i64 i)))]) (fun _ => []) (fun _ => True) (by rfl) (by simp [hK, boundsM]) ?_
      clear hK hA hI hB hP a1 a2 a3 b1 b2 b3
      generalize boundK t e locals said = b
      intro i hi _
      rcases Nat.lt_or_eq_of_le hi with hlt | rfl
      · have hge : e.Args[i]? = some e.Args[i] := List.getElem?_eq_getElem hlt
        have htk : boundsM t locals (e.Args.take (i + 1)) = (boundsM t locals (e.Args.take i) && boundM t locals e.Args[i] false) := by
          rw [List.take_add_one, hge, boundsM_all, boundsM_all, List.all_append]; simp
        have hS := fun L => (hsub i hlt false).ok L
        have a2 : inR .i64 ((i : Int) + 1) := by rw [inR_i64]; omega
        generalize hE : e.Args[i] = x at *
        simp [hlt, hge, hE]
        intro bs2
        refine runC_sound _ _ [.d (.v (.bool (boundM t locals x false)))] (by rfl) ?_
        simp [hS, a2, hlt, hE, htk, Bool.and_assoc] <;> (intro h1 h2; first | exact ⟨h1, h2⟩ | exact ⟨⟨h1, h2⟩, hS _⟩)
      · simp
    by_cases hk15 : e.Kind = 15
    · have hk := hk15; clear hk1 hk14 hk15
      have hK : boundK t e locals said = boundK t e locals said := rfl
      conv at hK => rhs; unfold boundK
      simp [hk] at hK
      refine Pure.run Try.func58 rfl (by simp [Try.f58]) ?_; simp [Try.f58, hk]
      intro bs
      refine runC_sound _ _ [.d (.v (.bool (bareM e 0 false true false)))] (by rfl) ?_
      simp [hA, hB, hI, hP, a1, a2, a3]
      refine AWP.loopS [2, 4, 9, 154, 155, 156] e.Args.length (fun i => [(9, .d (.v (.bool (boundK t e locals said && boundsM t locals (e.Args.take i))))), (156, .d (.v (.int .i64 i)))]) (fun _ => []) (fun _ => True) (by rfl) (by simp [hK, boundsM]) ?_
      clear hK hA hI hB hP a1 a2 a3 b1 b2 b3
      generalize boundK t e locals said = b
      intro i hi _
      rcases Nat.lt_or_eq_of_le hi with hlt | rfl
      · have hge : e.Args[i]? = some e.Args[i] := List.getElem?_eq_getElem hlt
        have htk : boundsM t locals (e.Args.take (i + 1)) = (boundsM t locals (e.Args.take i) && boundM t locals e.Args[i] false) := by
          rw [List.take_add_one, hge, boundsM_all, boundsM_all, List.all_append]; simp
        have hS := fun L => (hsub i hlt false).ok L
        have a2 : inR .i64 ((i : Int) + 1) := by rw [inR_i64]; omega
        generalize hE : e.Args[i] = x at *
        simp [hlt, hge, hE]
        intro bs2
        refine runC_sound _ _ [.d (.v (.bool (boundM t locals x false)))] (by rfl) ?_
        simp [hS, a2, hlt, hE, htk, Bool.and_assoc] <;> (intro h1 h2; first | exact ⟨h1, h2⟩ | exact ⟨⟨h1, h2⟩, hS _⟩)
      · simp
    by_cases hk19 : e.Kind = 19
    · have hk := hk19; clear hk1 hk14 hk15 hk19
      have hK : boundK t e locals said = boundK t e locals said := rfl
      conv at hK => rhs; unfold boundK
      simp [hk] at hK
      refine Pure.run Try.func58 rfl (by simp [Try.f58]) ?_; simp [Try.f58, hk]
      intro bs
      refine runC_sound _ _ [.d (.v (.bool (bareM e 0 false true false))), .d (.v (.bool (amongM e.Num 0 (t.Texts.length - 1))))] (by rfl) ?_
      simp [hA, hB, hI, hP, a1, a2, a3]
      refine AWP.loopS [2, 4, 9, 154, 155, 156] e.Args.length (fun i => [(9, .d (.v (.bool (boundK t e locals said && boundsM t locals (e.Args.take i))))), (156, .d (.v (.int .i64 i)))]) (fun _ => []) (fun _ => True) (by rfl) (by simp [hK, boundsM]) ?_
      clear hK hA hI hB hP a1 a2 a3 b1 b2 b3
      generalize boundK t e locals said = b
      intro i hi _
      rcases Nat.lt_or_eq_of_le hi with hlt | rfl
      · have hge : e.Args[i]? = some e.Args[i] := List.getElem?_eq_getElem hlt
        have htk : boundsM t locals (e.Args.take (i + 1)) = (boundsM t locals (e.Args.take i) && boundM t locals e.Args[i] false) := by
          rw [List.take_add_one, hge, boundsM_all, boundsM_all, List.all_append]; simp
        have hS := fun L => (hsub i hlt false).ok L
        have a2 : inR .i64 ((i : Int) + 1) := by rw [inR_i64]; omega
        generalize hE : e.Args[i] = x at *
        simp [hlt, hge, hE]
        intro bs2
        refine runC_sound _ _ [.d (.v (.bool (boundM t locals x false)))] (by rfl) ?_
        simp [hS, a2, hlt, hE, htk, Bool.and_assoc] <;> (intro h1 h2; first | exact ⟨h1, h2⟩ | exact ⟨⟨h1, h2⟩, hS _⟩)
      · simp
    by_cases hk4 : e.Kind = 4
    · have hk := hk4; clear hk1 hk14 hk15 hk19 hk4
      have hK : boundK t e locals said = boundK t e locals said := rfl
      conv at hK => rhs; unfold boundK
      simp [hk] at hK
      refine Pure.run Try.func58 rfl (by simp [Try.f58]) ?_; simp [Try.f58, hk]
      intro bs
      refine runC_sound _ _ [.d (.v (.bool (bareM e 1 false false false)))] (by rfl) ?_
      simp [hA, hB, hI, hP, a1, a2, a3]
      refine AWP.loopS [2, 4, 9, 154, 155, 156] e.Args.length (fun i => [(9, .d (.v (.bool (boundK t e locals said && boundsM t locals (e.Args.take i))))), (156, .d (.v (.int .i64 i)))]) (fun _ => []) (fun _ => True) (by rfl) (by simp [hK, boundsM]) ?_
      clear hK hA hI hB hP a1 a2 a3 b1 b2 b3
      generalize boundK t e locals said = b
      intro i hi _
      rcases Nat.lt_or_eq_of_le hi with hlt | rfl
      · have hge : e.Args[i]? = some e.Args[i] := List.getElem?_eq_getElem hlt
        have htk : boundsM t locals (e.Args.take (i + 1)) = (boundsM t locals (e.Args.take i) && boundM t locals e.Args[i] false) := by
          rw [List.take_add_one, hge, boundsM_all, boundsM_all, List.all_append]; simp
        have hS := fun L => (hsub i hlt false).ok L
        have a2 : inR .i64 ((i : Int) + 1) := by rw [inR_i64]; omega
        generalize hE : e.Args[i] = x at *
        simp [hlt, hge, hE]
        intro bs2
        refine runC_sound _ _ [.d (.v (.bool (boundM t locals x false)))] (by rfl) ?_
        simp [hS, a2, hlt, hE, htk, Bool.and_assoc] <;> (intro h1 h2; first | exact ⟨h1, h2⟩ | exact ⟨⟨h1, h2⟩, hS _⟩)
      · simp
    by_cases hk5 : e.Kind = 5
    · have hk := hk5; clear hk1 hk14 hk15 hk19 hk4 hk5
      have hK : boundK t e locals said = boundK t e locals said := rfl
      conv at hK => rhs; unfold boundK
      simp [hk] at hK
      refine Pure.run Try.func58 rfl (by simp [Try.f58]) ?_; simp [Try.f58, hk]
      intro bs
      refine runC_sound _ _ [.d (.v (.bool (bareM e 1 false false false)))] (by rfl) ?_
      simp [hA, hB, hI, hP, a1, a2, a3]
      refine AWP.loopS [2, 4, 9, 154, 155, 156] e.Args.length (fun i => [(9, .d (.v (.bool (boundK t e locals said && boundsM t locals (e.Args.take i))))), (156, .d (.v (.int .i64 i)))]) (fun _ => []) (fun _ => True) (by rfl) (by simp [hK, boundsM]) ?_
      clear hK hA hI hB hP a1 a2 a3 b1 b2 b3
      generalize boundK t e locals said = b
      intro i hi _
      rcases Nat.lt_or_eq_of_le hi with hlt | rfl
      · have hge : e.Args[i]? = some e.Args[i] := List.getElem?_eq_getElem hlt
        have htk : boundsM t locals (e.Args.take (i + 1)) = (boundsM t locals (e.Args.take i) && boundM t locals e.Args[i] false) := by
          rw [List.take_add_one, hge, boundsM_all, boundsM_all, List.all_append]; simp
        have hS := fun L => (hsub i hlt false).ok L
        have a2 : inR .i64 ((i : Int) + 1) := by rw [inR_i64]; omega
        generalize hE : e.Args[i] = x at *
        simp [hlt, hge, hE]
        intro bs2
        refine runC_sound _ _ [.d (.v (.bool (boundM t locals x false)))] (by rfl) ?_
        simp [hS, a2, hlt, hE, htk, Bool.and_assoc] <;> (intro h1 h2; first | exact ⟨h1, h2⟩ | exact ⟨⟨h1, h2⟩, hS _⟩)
      · simp
    by_cases hk11 : e.Kind = 11
    · have hk := hk11; clear hk1 hk14 hk15 hk19 hk4 hk5 hk11
      have hK : boundK t e locals said = boundK t e locals said := rfl
      conv at hK => rhs; unfold boundK
      simp [hk] at hK
      refine Pure.run Try.func58 rfl (by simp [Try.f58]) ?_; simp [Try.f58, hk]
      intro bs
      refine runC_sound _ _ [.d (.v (.bool (bareM e 1 false false false)))] (by rfl) ?_
      simp [hA, hB, hI, hP, a1, a2, a3]
      refine AWP.loopS [2, 4, 9, 154, 155, 156] e.Args.length (fun i => [(9, .d (.v (.bool (boundK t e locals said && boundsM t locals (e.Args.take i))))), (156, .d (.v (.int .i64 i)))]) (fun _ => []) (fun _ => True) (by rfl) (by simp [hK, boundsM]) ?_
      clear hK hA hI hB hP a1 a2 a3 b1 b2 b3
      generalize boundK t e locals said = b
      intro i hi _
      rcases Nat.lt_or_eq_of_le hi with hlt | rfl
      · have hge : e.Args[i]? = some e.Args[i] := List.getElem?_eq_getElem hlt
        have htk : boundsM t locals (e.Args.take (i + 1)) = (boundsM t locals (e.Args.take i) && boundM t locals e.Args[i] false) := by
          rw [List.take_add_one, hge, boundsM_all, boundsM_all, List.all_append]; simp
        have hS := fun L => (hsub i hlt false).ok L
        have a2 : inR .i64 ((i : Int) + 1) := by rw [inR_i64]; omega
        generalize hE : e.Args[i] = x at *
        simp [hlt, hge, hE]
        intro bs2
        refine runC_sound _ _ [.d (.v (.bool (boundM t locals x false)))] (by rfl) ?_
        simp [hS, a2, hlt, hE, htk, Bool.and_assoc] <;> (intro h1 h2; first | exact ⟨h1, h2⟩ | exact ⟨⟨h1, h2⟩, hS _⟩)
      · simp
    by_cases hk13 : e.Kind = 13
    · have hk := hk13; clear hk1 hk14 hk15 hk19 hk4 hk5 hk11 hk13
      have hK : boundK t e locals said = boundK t e locals said := rfl
      conv at hK => rhs; unfold boundK
      simp [hk] at hK
      refine Pure.run Try.func58 rfl (by simp [Try.f58]) ?_; simp [Try.f58, hk]
      intro bs
      refine runC_sound _ _ [.d (.v (.bool (bareM e 1 false false false)))] (by rfl) ?_
      simp [hA, hB, hI, hP, a1, a2, a3]
      refine AWP.loopS [2, 4, 9, 154, 155, 156] e.Args.length (fun i => [(9, .d (.v (.bool (boundK t e locals said && boundsM t locals (e.Args.take i))))), (156, .d (.v (.int .i64 i)))]) (fun _ => []) (fun _ => True) (by rfl) (by simp [hK, boundsM]) ?_
      clear hK hA hI hB hP a1 a2 a3 b1 b2 b3
      generalize boundK t e locals said = b
      intro i hi _
      rcases Nat.lt_or_eq_of_le hi with hlt | rfl
      · have hge : e.Args[i]? = some e.Args[i] := List.getElem?_eq_getElem hlt
        have htk : boundsM t locals (e.Args.take (i + 1)) = (boundsM t locals (e.Args.take i) && boundM t locals e.Args[i] false) := by
          rw [List.take_add_one, hge, boundsM_all, boundsM_all, List.all_append]; simp
        have hS := fun L => (hsub i hlt false).ok L
        have a2 : inR .i64 ((i : Int) + 1) := by rw [inR_i64]; omega
        generalize hE : e.Args[i] = x at *
        simp [hlt, hge, hE]
        intro bs2
        refine runC_sound _ _ [.d (.v (.bool (boundM t locals x false)))] (by rfl) ?_
        simp [hS, a2, hlt, hE, htk, Bool.and_assoc] <;> (intro h1 h2; first | exact ⟨h1, h2⟩ | exact ⟨⟨h1, h2⟩, hS _⟩)
      · simp
    by_cases hk6 : e.Kind = 6
    · have hk := hk6; clear hk1 hk14 hk15 hk19 hk4 hk5 hk11 hk13 hk6
      have hK : boundK t e locals said = boundK t e locals said := rfl
      conv at hK => rhs; unfold boundK
      simp [hk] at hK
      refine Pure.run Try.func58 rfl (by simp [Try.f58]) ?_; simp [Try.f58, hk]
      intro bs
      refine runC_sound _ _ [.d (.v (.bool (bareM e 2 true false false))), .d (.v (.bool (amongM e.Op 1 14)))] (by rfl) ?_
      simp [hA, hB, hI, hP, a1, a2, a3]
      refine AWP.loopS [2, 4, 9, 154, 155, 156] e.Args.length (fun i => [(9, .d (.v (.bool (boundK t e locals said && boundsM t locals (e.Args.take i))))), (156, .d (.v (.int .i64 i)))]) (fun _ => []) (fun _ => True) (by rfl) (by simp [hK, boundsM]) ?_
      clear hK hA hI hB hP a1 a2 a3 b1 b2 b3
      generalize boundK t e locals said = b
      intro i hi _
      rcases Nat.lt_or_eq_of_le hi with hlt | rfl
      · have hge : e.Args[i]? = some e.Args[i] := List.getElem?_eq_getElem hlt
        have htk : boundsM t locals (e.Args.take (i + 1)) = (boundsM t locals (e.Args.take i) && boundM t locals e.Args[i] false) := by
          rw [List.take_add_one, hge, boundsM_all, boundsM_all, List.all_append]; simp
        have hS := fun L => (hsub i hlt false).ok L
        have a2 : inR .i64 ((i : Int) + 1) := by rw [inR_i64]; omega
        generalize hE : e.Args[i] = x at *
        simp [hlt, hge, hE]
        intro bs2
        refine runC_sound _ _ [.d (.v (.bool (boundM t locals x false)))] (by rfl) ?_
        simp [hS, a2, hlt, hE, htk, Bool.and_assoc] <;> (intro h1 h2; first | exact ⟨h1, h2⟩ | exact ⟨⟨h1, h2⟩, hS _⟩)
      · simp
    by_cases hk16 : e.Kind = 16
    · have hk := hk16; clear hk1 hk14 hk15 hk19 hk4 hk5 hk11 hk13 hk6 hk16
      have hK : boundK t e locals said = boundK t e locals said := rfl
      conv at hK => rhs; unfold boundK
      simp [hk] at hK
      refine Pure.run Try.func58 rfl (by simp [Try.f58]) ?_; simp [Try.f58, hk]
      intro bs
      refine runC_sound _ _ [.d (.v (.bool (bareM e 1 false true false)))] (by rfl) ?_
      simp [hA, hB, hI, hP, a1, a2, a3]
      refine AWP.loopS [2, 4, 9, 154, 155, 156] e.Args.length (fun i => [(9, .d (.v (.bool (boundK t e locals said && boundsM t locals (e.Args.take i))))), (156, .d (.v (.int .i64 i)))]) (fun _ => []) (fun _ => True) (by rfl) (by simp [hK, boundsM]) ?_
      clear hK hA hI hB hP a1 a2 a3 b1 b2 b3
      generalize boundK t e locals said = b
      intro i hi _
      rcases Nat.lt_or_eq_of_le hi with hlt | rfl
      · have hge : e.Args[i]? = some e.Args[i] := List.getElem?_eq_getElem hlt
        have htk : boundsM t locals (e.Args.take (i + 1)) = (boundsM t locals (e.Args.take i) && boundM t locals e.Args[i] false) := by
          rw [List.take_add_one, hge, boundsM_all, boundsM_all, List.all_append]; simp
        have hS := fun L => (hsub i hlt false).ok L
        have a2 : inR .i64 ((i : Int) + 1) := by rw [inR_i64]; omega
        generalize hE : e.Args[i] = x at *
        simp [hlt, hge, hE]
        intro bs2
        refine runC_sound _ _ [.d (.v (.bool (boundM t locals x false)))] (by rfl) ?_
        simp [hS, a2, hlt, hE, htk, Bool.and_assoc] <;> (intro h1 h2; first | exact ⟨h1, h2⟩ | exact ⟨⟨h1, h2⟩, hS _⟩)
      · simp
    by_cases hk17 : e.Kind = 17
    · have hk := hk17; clear hk1 hk14 hk15 hk19 hk4 hk5 hk11 hk13 hk6 hk16 hk17
      have hK : boundK t e locals said = boundK t e locals said := rfl
      conv at hK => rhs; unfold boundK
      simp [hk] at hK
      refine Pure.run Try.func58 rfl (by simp [Try.f58]) ?_; simp [Try.f58, hk]
      intro bs
      refine runC_sound _ _ [.d (.v (.bool (bareM e 1 false true false))), .d (.v (.bool (amongM e.Num 0 (t.Props.length - 1))))] (by rfl) ?_
      simp [hA, hB, hI, hP, a1, a2, a3]
      refine AWP.loopS [2, 4, 9, 154, 155, 156] e.Args.length (fun i => [(9, .d (.v (.bool (boundK t e locals said && boundsM t locals (e.Args.take i))))), (156, .d (.v (.int .i64 i)))]) (fun _ => []) (fun _ => True) (by rfl) (by simp [hK, boundsM]) ?_
      clear hK hA hI hB hP a1 a2 a3 b1 b2 b3
      generalize boundK t e locals said = b
      intro i hi _
      rcases Nat.lt_or_eq_of_le hi with hlt | rfl
      · have hge : e.Args[i]? = some e.Args[i] := List.getElem?_eq_getElem hlt
        have htk : boundsM t locals (e.Args.take (i + 1)) = (boundsM t locals (e.Args.take i) && boundM t locals e.Args[i] false) := by
          rw [List.take_add_one, hge, boundsM_all, boundsM_all, List.all_append]; simp
        have hS := fun L => (hsub i hlt false).ok L
        have a2 : inR .i64 ((i : Int) + 1) := by rw [inR_i64]; omega
        generalize hE : e.Args[i] = x at *
        simp [hlt, hge, hE]
        intro bs2
        refine runC_sound _ _ [.d (.v (.bool (boundM t locals x false)))] (by rfl) ?_
        simp [hS, a2, hlt, hE, htk, Bool.and_assoc] <;> (intro h1 h2; first | exact ⟨h1, h2⟩ | exact ⟨⟨h1, h2⟩, hS _⟩)
      · simp
    by_cases hk18 : e.Kind = 18
    · have hk := hk18; clear hk1 hk14 hk15 hk19 hk4 hk5 hk11 hk13 hk6 hk16 hk17 hk18
      have hK : boundK t e locals said = boundK t e locals said := rfl
      conv at hK => rhs; unfold boundK
      simp [hk] at hK
      refine Pure.run Try.func58 rfl (by simp [Try.f58]) ?_; simp [Try.f58, hk]
      intro bs
      refine AWP.regionD [.d (.v (.bool (bareM e e.Args.length false true false))), .d (.v (.int .i64 (paramsM t e.Num)))] Try.mixed (by kernel_rfl) (by rfl) ?_
      simp [hA, hB, hI, hP, a1, a2, a3]
      refine AWP.loopS [2, 4, 9, 154, 155, 156] e.Args.length (fun i => [(9, .d (.v (.bool (boundK t e locals said && boundsM t locals (e.Args.take i))))), (156, .d (.v (.int .i64 i)))]) (fun _ => []) (fun _ => True) (by rfl) (by simp [hK, boundsM]; rfl) ?_
      clear hK hA hI hB hP a1 a2 a3 b1 b2 b3
      generalize boundK t e locals said = b
      intro i hi _
      rcases Nat.lt_or_eq_of_le hi with hlt | rfl
      · have hge : e.Args[i]? = some e.Args[i] := List.getElem?_eq_getElem hlt
        have htk : boundsM t locals (e.Args.take (i + 1)) = (boundsM t locals (e.Args.take i) && boundM t locals e.Args[i] false) := by
          rw [List.take_add_one, hge, boundsM_all, boundsM_all, List.all_append]; simp
        have hS := fun L => (hsub i hlt false).ok L
        have a2 : inR .i64 ((i : Int) + 1) := by rw [inR_i64]; omega
        generalize hE : e.Args[i] = x at *
        simp [hlt, hge, hE]
        intro bs2
        refine runC_sound _ _ [.d (.v (.bool (boundM t locals x false)))] (by rfl) ?_
        simp [hS, a2, hlt, hE, htk, Bool.and_assoc] <;> (intro h1 h2; first | exact ⟨h1, h2⟩ | exact ⟨⟨h1, h2⟩, hS _⟩)
      · simp
    by_cases hk10 : e.Kind = 10
    · have hk := hk10; clear hk1 hk14 hk15 hk19 hk4 hk5 hk11 hk13 hk6 hk16 hk17 hk18 hk10
      have hK : boundK t e locals said = boundK t e locals said := rfl
      conv at hK => rhs; unfold boundK
      simp [hk] at hK
      refine Pure.run Try.func58 rfl (by simp [Try.f58]) ?_; simp [Try.f58, hk]
      intro bs
      refine runC_sound _ _ [.d (.v (.bool (bareM e 1 true false false))), .d (.v (.bool (amongM e.Op 1 3)))] (by rfl) ?_
      simp [hA, hB, hI, hP, a1, a2, a3]
      refine AWP.loopS [2, 4, 9, 154, 155, 156] e.Args.length (fun i => [(9, .d (.v (.bool (boundK t e locals said && boundsM t locals (e.Args.take i))))), (156, .d (.v (.int .i64 i)))]) (fun _ => []) (fun _ => True) (by rfl) (by simp [hK, boundsM]) ?_
      clear hK hA hI hB hP a1 a2 a3 b1 b2 b3
      generalize boundK t e locals said = b
      intro i hi _
      rcases Nat.lt_or_eq_of_le hi with hlt | rfl
      · have hge : e.Args[i]? = some e.Args[i] := List.getElem?_eq_getElem hlt
        have htk : boundsM t locals (e.Args.take (i + 1)) = (boundsM t locals (e.Args.take i) && boundM t locals e.Args[i] false) := by
          rw [List.take_add_one, hge, boundsM_all, boundsM_all, List.all_append]; simp
        have hS := fun L => (hsub i hlt false).ok L
        have a2 : inR .i64 ((i : Int) + 1) := by rw [inR_i64]; omega
        generalize hE : e.Args[i] = x at *
        simp [hlt, hge, hE]
        intro bs2
        refine runC_sound _ _ [.d (.v (.bool (boundM t locals x false)))] (by rfl) ?_
        simp [hS, a2, hlt, hE, htk, Bool.and_assoc] <;> (intro h1 h2; first | exact ⟨h1, h2⟩ | exact ⟨⟨h1, h2⟩, hS _⟩)
      · simp
    by_cases hk12 : e.Kind = 12
    · have hk := hk12; clear hk1 hk14 hk15 hk19 hk4 hk5 hk11 hk13 hk6 hk16 hk17 hk18 hk10 hk12
      have hK : boundK t e locals said = boundK t e locals said := rfl
      conv at hK => rhs; unfold boundK
      simp [hk] at hK
      refine Pure.run Try.func58 rfl (by simp [Try.f58]) ?_; simp [Try.f58, hk]
      intro bs
      refine runC_sound _ _ [.d (.v (.bool (bareM e 0 true false false))), .d (.v (.bool (amongM e.Op 1 6)))] (by rfl) ?_
      simp [hA, hB, hI, hP, a1, a2, a3]
      refine AWP.loopS [2, 4, 9, 154, 155, 156] e.Args.length (fun i => [(9, .d (.v (.bool (boundK t e locals said && boundsM t locals (e.Args.take i))))), (156, .d (.v (.int .i64 i)))]) (fun _ => []) (fun _ => True) (by rfl) (by simp [hK, boundsM]) ?_
      clear hK hA hI hB hP a1 a2 a3 b1 b2 b3
      generalize boundK t e locals said = b
      intro i hi _
      rcases Nat.lt_or_eq_of_le hi with hlt | rfl
      · have hge : e.Args[i]? = some e.Args[i] := List.getElem?_eq_getElem hlt
        have htk : boundsM t locals (e.Args.take (i + 1)) = (boundsM t locals (e.Args.take i) && boundM t locals e.Args[i] false) := by
          rw [List.take_add_one, hge, boundsM_all, boundsM_all, List.all_append]; simp
        have hS := fun L => (hsub i hlt false).ok L
        have a2 : inR .i64 ((i : Int) + 1) := by rw [inR_i64]; omega
        generalize hE : e.Args[i] = x at *
        simp [hlt, hge, hE]
        intro bs2
        refine runC_sound _ _ [.d (.v (.bool (boundM t locals x false)))] (by rfl) ?_
        simp [hS, a2, hlt, hE, htk, Bool.and_assoc] <;> (intro h1 h2; first | exact ⟨h1, h2⟩ | exact ⟨⟨h1, h2⟩, hS _⟩)
      · simp
    have hK : boundK t e locals said = false := by simp [boundK, hk1, hk14, hk15, hk19, hk4, hk5, hk11, hk13, hk6, hk16, hk17, hk18, hk10, hk12]
    refine Pure.run Try.func58 rfl (by simp [Try.f58]) ?_; simp [Try.f58, hk1, hk14, hk15, hk19, hk4, hk5, hk11, hk13, hk6, hk16, hk17, hk18, hk10, hk12]
    intro bs
    refine AWP.loopS [2, 4, 9, 154, 155, 156] e.Args.length (fun i => [(9, .d (.v (.bool (boundK t e locals said && boundsM t locals (e.Args.take i))))), (156, .d (.v (.int .i64 i)))]) (fun _ => []) (fun _ => True) (by rfl) (by simp [hK, boundsM]) ?_
    clear hK hA hI hB hP a1 a2 a3 b1 b2 b3
    generalize boundK t e locals said = b
    intro i hi _
    rcases Nat.lt_or_eq_of_le hi with hlt | rfl
    · have hge : e.Args[i]? = some e.Args[i] := List.getElem?_eq_getElem hlt
      have htk : boundsM t locals (e.Args.take (i + 1)) = (boundsM t locals (e.Args.take i) && boundM t locals e.Args[i] false) := by
        rw [List.take_add_one, hge, boundsM_all, boundsM_all, List.all_append]; simp
      have hS := fun L => (hsub i hlt false).ok L
      have a2 : inR .i64 ((i : Int) + 1) := by rw [inR_i64]; omega
      generalize hE : e.Args[i] = x at *
      simp [hlt, hge, hE]
      intro bs2
      refine runC_sound _ _ [.d (.v (.bool (boundM t locals x false)))] (by rfl) ?_
      simp [hS, a2, hlt, hE, htk, Bool.and_assoc] <;> (intro h1 h2; first | exact ⟨h1, h2⟩ | exact ⟨⟨h1, h2⟩, hS _⟩)
    · simp
end Go.Ab
