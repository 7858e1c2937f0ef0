/-
  The texts Lfold Lfold2 Lfold3 Fnum Fb Fex Ed Fblk Frf Frblk Fbook Fsame Wlet Wall Btop Btop2 Btop3 Wfit Wtop Wthings Wline Wfits Wfits2 Btree Btree2 Btree3 Wtr, one behind the other.
-/
import Derived.Test.YtfcjkjahbmcabaaGreatMg4
set_option linter.unusedSimpArgs false
set_option linter.unusedVariables false
namespace Go.Ab
open Go.Proofs
def numX (n : Int) : GExpr := .mk 1 0 n ⟨#[]⟩ []
def redE (e : GExpr) : GExpr :=
  match e.Args with
  | [x] => if x.Kind = 1 then (if e.Kind = 4 then numX (negM x.Num) else if e.Kind = 5 then numX (tru (decide (wrapM x.Num = 0))) else e) else e
  | [x, y] => if e.Kind = 6 ∧ x.Kind = 1 then
      (if y.Kind = 1 ∧ (binR GWorld.zero e.Op x.Num y.Num).2 = 0 then numX (binR GWorld.zero e.Op x.Num y.Num).1
       else if e.Op = 2 ∧ wrapM x.Num = 0 then numX 0 else if e.Op = 1 ∧ wrapM x.Num ≠ 0 then numX 1 else e) else e
  | _ => e
mutual
def foldE : GExpr → GExpr
  | .mk k o n s l => redE (.mk k o n s (foldEs l))
def foldEs : List GExpr → List GExpr
  | [] => []
  | x :: l => foldE x :: foldEs l
end
def argsE (e : GExpr) (l : List GExpr) : GExpr := .mk e.Kind e.Op e.Num e.Name l
@[simp] theorem argsE_K (e : GExpr) (l : List GExpr) : (argsE e l).Kind = e.Kind := rfl
@[simp] theorem argsE_O (e : GExpr) (l : List GExpr) : (argsE e l).Op = e.Op := rfl
@[simp] theorem argsE_N (e : GExpr) (l : List GExpr) : (argsE e l).Num = e.Num := rfl
@[simp] theorem argsE_S (e : GExpr) (l : List GExpr) : (argsE e l).Name = e.Name := rfl
@[simp] theorem argsE_A (e : GExpr) (l : List GExpr) : (argsE e l).Args = l := rfl
def partsS (s : GStmt) (a : List GExpr) (b c : List GStmt) : GStmt := .mk s.Kind s.Num s.Name a b c
@[simp] theorem partsS_K (s : GStmt) (a : List GExpr) (b c : List GStmt) : (partsS s a b c).Kind = s.Kind := rfl
@[simp] theorem partsS_N (s : GStmt) (a : List GExpr) (b c : List GStmt) : (partsS s a b c).Num = s.Num := rfl
@[simp] theorem partsS_S (s : GStmt) (a : List GExpr) (b c : List GStmt) : (partsS s a b c).Name = s.Name := rfl
@[simp] theorem partsS_A (s : GStmt) (a : List GExpr) (b c : List GStmt) : (partsS s a b c).Args = a := rfl
@[simp] theorem partsS_B (s : GStmt) (a : List GExpr) (b c : List GStmt) : (partsS s a b c).Body = b := rfl
@[simp] theorem partsS_E (s : GStmt) (a : List GExpr) (b c : List GStmt) : (partsS s a b c).Else = c := rfl
theorem foldE_eq (e : GExpr) : foldE e = redE (argsE e (foldEs e.Args)) := by cases e; rw [foldE]; rfl
theorem foldEs_map (l : List GExpr) : foldEs l = l.map foldE := by
  induction l with
  | nil => rw [foldEs]; rfl
  | cons x l ih => rw [foldEs, ih]; rfl
def chS (n : Int) (s : GStmt) : List GStmt := if wrapM n ≠ 0 then s.Body else s.Else
def putS (out : List GStmt) (rest : Nat) (s : GStmt) : List GStmt :=
  match s.Args with
  | [x] => if x.Kind = 1 ∧ s.Kind = 9 then
      (if out.length + (chS x.Num s).length + rest ≤ 256 then out ++ chS x.Num s else out ++ [s])
    else if x.Kind = 1 ∧ s.Kind = 10 ∧ wrapM x.Num = 0 then out else out ++ [s]
  | _ => out ++ [s]
def placeN (L : List GStmt) : Nat → List GStmt
  | 0 => []
  | k + 1 => match L[k]? with
    | some s => putS (placeN L k) (L.length - k - 1) s
    | none => placeN L k
def placeB (L : List GStmt) : List GStmt := placeN L L.length
mutual
def foldS : GStmt → GStmt
  | .mk k n s a b c => .mk k n s (foldEs a) (placeB (foldSs b)) (placeB (foldSs c))
def foldSs : List GStmt → List GStmt
  | [] => []
  | x :: l => foldS x :: foldSs l
end
def foldB (l : List GStmt) : List GStmt := placeB (foldSs l)
theorem foldS_eq (s : GStmt) : foldS s = partsS s (foldEs s.Args) (foldB s.Body) (foldB s.Else) := by cases s; rw [foldS]; rfl
theorem foldSs_map (l : List GStmt) : foldSs l = l.map foldS := by
  induction l with
  | nil => rw [foldSs]; rfl
  | cons x l ih => rw [foldSs, ih]; rfl
def foldK (b : GBook) : GBook := ⟨b.Tables, b.Routines.map foldB⟩
theorem bin_bd (op a b : Int) : -32768 ≤ (binR GWorld.zero op a b).1 ∧ (binR GWorld.zero op a b).1 ≤ 32767 := by
  have ht : ∀ c : Bool, -32768 ≤ tru c ∧ tru c ≤ 32767 := fun c => by cases c <;> simp [tru]
  have hw := fun n => wrapM_bd n
  have hd : -32768 ≤ (divM (wrapM a) (wrapM b)).1 ∧ (divM (wrapM a) (wrapM b)).1 ≤ 32767 := by unfold divM; split <;> first | exact hw _ | (dsimp only; omega)
  have hm : -32768 ≤ (modM (wrapM a) (wrapM b)).1 ∧ (modM (wrapM a) (wrapM b)).1 ≤ 32767 := by
    unfold modM
    split
    · dsimp only; omega
    · first | exact hw _ | exact tmod_bd (hw _)
  unfold binR
  by_cases h1 : op = 1; · rw [if_pos h1]; exact ht _
  rw [if_neg h1]
  by_cases h2 : op = 2; · rw [if_pos h2]; exact ht _
  rw [if_neg h2]
  by_cases h3 : op = 3; · rw [if_pos h3]; exact ht _
  rw [if_neg h3]
  by_cases h4 : op = 4; · rw [if_pos h4]; exact ht _
  rw [if_neg h4]
  by_cases h5 : op = 5; · rw [if_pos h5]; exact ht _
  rw [if_neg h5]
  by_cases h6 : op = 6; · rw [if_pos h6]; exact ht _
  rw [if_neg h6]
  by_cases h7 : op = 7; · rw [if_pos h7]; exact ht _
  rw [if_neg h7]
  by_cases h8 : op = 8; · rw [if_pos h8]; exact ht _
  rw [if_neg h8]
  by_cases h9 : op = 9
  · rw [if_pos h9]; split
    · exact ht _
    · dsimp only; omega
  rw [if_neg h9]
  by_cases h10 : op = 10; · rw [if_pos h10]; exact hw _
  rw [if_neg h10]
  by_cases h11 : op = 11; · rw [if_pos h11]; exact hw _
  rw [if_neg h11]
  by_cases h12 : op = 12; · rw [if_pos h12]; exact hw _
  rw [if_neg h12]
  by_cases h13 : op = 13; · rw [if_pos h13]; exact hd
  rw [if_neg h13]
  by_cases h14 : op = 14; · rw [if_pos h14]; exact hm
  rw [if_neg h14]
  dsimp only; omega
section
variable (t : GTables) (lo : Int)
theorem num_bound (n : Int) (h : -32768 ≤ n ∧ n ≤ 32767) (said : Bool) : boundM t lo (numX n) said = true := by
  rw [boundM_eq]
  simp [numX, boundK, GExpr.Kind, GExpr.Args, GExpr.Op, GExpr.Num, GExpr.Name, bareM, isM, boundsM, h.1, h.2]
theorem boundK_args (e : GExpr) (l : List GExpr) (h : l.length = e.Args.length) (said : Bool) : boundK t (argsE e l) lo said = boundK t e lo said := by
  unfold boundK bareM
  simp only [argsE_K, argsE_O, argsE_N, argsE_S, argsE_A, h]
  rfl
theorem red_bound (e : GExpr) (said : Bool) (h : boundM t lo e said = true) : boundM t lo (redE e) said = true := by
  unfold redE
  repeat' split
  all_goals first
    | exact h
    | exact num_bound t lo _ (bin_bd _ _ _) said
    | exact num_bound t lo _ (wrapM_bd _) said
    | exact num_bound t lo _ (by omega) said
    | (refine num_bound t lo _ ?_ said; unfold tru; split <;> omega)
theorem fold_bound : ∀ (N : Nat) (e : GExpr), SizeOf.sizeOf e < N → ∀ said, boundM t lo e said = true → boundM t lo (foldE e) said = true
  | 0, e, hN, _, _ => by omega
  | N + 1, e, hN, said, h => by
    rw [foldE_eq]
    refine red_bound t lo _ said ?_
    rw [boundM_eq, Bool.and_eq_true] at h ⊢
    refine ⟨by rw [boundK_args t lo e _ (by rw [foldEs_map, List.length_map])]; exact h.1, ?_⟩
    have h2 := h.2
    rw [boundsM_all, List.all_eq_true] at h2 ⊢
    intro x hx
    have hx : x ∈ foldEs e.Args := hx
    rw [foldEs_map] at hx
    obtain ⟨y, hy, rfl⟩ := List.mem_map.1 hx
    refine fold_bound N y ?_ false (h2 y hy)
    have := List.sizeOf_lt_of_mem hy
    cases e
    simp only [GExpr.Args] at this
    simp only [GExpr.mk.sizeOf_spec] at hN
    omega
theorem foldE_bound {e : GExpr} {said : Bool} (h : boundM t lo e said = true) : boundM t lo (foldE e) said = true := fold_bound t lo _ e (Nat.lt_succ_self _) said h
theorem fold_call {e : GExpr} (h : e.Kind = 18) : (foldE e).Kind = 18 := by
  rw [foldE_eq]
  have hk : (argsE e (foldEs e.Args)).Kind = 18 := h
  unfold redE
  repeat' split
  all_goals first | exact hk | (exfalso; omega)
theorem mem_putS {out : List GStmt} {r : Nat} {s x : GStmt} (h : x ∈ putS out r s) : x ∈ out ∨ x = s ∨ x ∈ s.Body ∨ x ∈ s.Else := by
  unfold putS at h
  split at h
  · split at h
    · split at h
      · rcases List.mem_append.1 h with h | h
        · exact .inl h
        · unfold chS at h
          split at h
          · exact .inr (.inr (.inl h))
          · exact .inr (.inr (.inr h))
      · rcases List.mem_append.1 h with h | h
        · exact .inl h
        · exact .inr (.inl (by simpa using h))
    · split at h
      · exact .inl h
      · rcases List.mem_append.1 h with h | h
        · exact .inl h
        · exact .inr (.inl (by simpa using h))
  · rcases List.mem_append.1 h with h | h
    · exact .inl h
    · exact .inr (.inl (by simpa using h))
theorem mem_place {L : List GStmt} {x : GStmt} : ∀ k, x ∈ placeN L k → ∃ s ∈ L, x = s ∨ x ∈ s.Body ∨ x ∈ s.Else
  | 0, h => by simp [placeN] at h
  | k + 1, h => by
    rw [placeN] at h
    split at h
    · rename_i s hs
      rcases mem_putS h with h | h
      · exact mem_place k h
      · exact ⟨s, List.mem_of_getElem? hs, h⟩
    · exact mem_place k h
theorem put_len {out : List GStmt} {r : Nat} {s : GStmt} (h : out.length + (r + 1) ≤ 256) : (putS out r s).length + r ≤ 256 := by
  unfold putS
  repeat' split
  all_goals (try simp only [List.length_append, List.length_singleton])
  all_goals omega
theorem place_len {L : List GStmt} (h : L.length ≤ 256) : ∀ k, k ≤ L.length → (placeN L k).length + (L.length - k) ≤ 256
  | 0, _ => by simp [placeN]; omega
  | k + 1, hk => by
    have ih := place_len h k (by omega)
    rw [placeN, List.getElem?_eq_getElem (by omega)]
    simp only
    have := put_len (out := placeN L k) (r := L.length - k - 1) (s := L[k]'(by omega)) (by omega)
    omega
theorem placeB_len {L : List GStmt} (h : L.length ≤ 256) : (placeB L).length ≤ 256 := by
  have := place_len h L.length (Nat.le_refl _)
  unfold placeB; omega
theorem boundB_iff (l : List GStmt) : boundB t lo l = true ↔ (∀ s ∈ l, boundS t lo s = true) ∧ l.length ≤ 256 := by
  unfold boundB
  rw [Bool.and_eq_true, boundSs_all, List.all_eq_true, decide_eq_true_eq]
theorem place_bound {L : List GStmt} (h : boundB t lo L = true) : boundB t lo (placeB L) = true := by
  rw [boundB_iff] at h ⊢
  refine ⟨fun x hx => ?_, placeB_len h.2⟩
  obtain ⟨s, hs, hx⟩ := mem_place L.length hx
  have hb := h.1 s hs
  rw [boundS_eq, Bool.and_eq_true, Bool.and_eq_true] at hb
  rcases hx with rfl | hx | hx
  · exact h.1 x hs
  · exact ((boundB_iff t lo _).1 hb.1.2).1 x hx
  · exact ((boundB_iff t lo _).1 hb.2).1 x hx
theorem shape_fold (s : GStmt) (h : (shapeM s).1 = true) (a : List GExpr) (b c : List GStmt) (ha : a.length = s.Args.length) (hb : s.Body.length = 0 → b.length = 0) (hc : s.Else.length = 0 → c.length = 0) : (shapeM (partsS s a b c)).1 = true := by
  have key : ∀ nm n x y, hasM s nm n x y = true → hasM (partsS s a b c) nm n x y = true := by
    intro nm n x y h
    unfold hasM at h ⊢
    simp only [partsS_A, partsS_B, partsS_E, partsS_S, partsS_N, ha, Bool.and_eq_true, Bool.or_eq_true, decide_eq_true_eq] at h ⊢
    obtain ⟨⟨⟨g1, g2⟩, g3⟩, g4⟩ := h
    refine ⟨⟨⟨?_, g2.imp id fun h => ?_⟩, g3.imp id fun h => ?_⟩, g4.imp id fun h => ⟨h.1, ?_⟩⟩
    · first | exact g1 | exact decide_eq_true g1
    · first | exact hb h | exact decide_eq_true (hb h)
    · first | exact hc h | exact decide_eq_true (hc h)
    · first | exact h.2 | exact decide_eq_true h.2
  unfold shapeM at h ⊢
  simp only [partsS_K, partsS_A, ha]
  repeat' split at h
  all_goals simp_all
theorem foldS_bound : ∀ (N : Nat) (s : GStmt), SizeOf.sizeOf s < N → boundS t lo s = true → boundS t lo (foldS s) = true
  | 0, s, hN, _ => by omega
  | N + 1, s, hN, h => by
    rw [boundS_eq] at h
    simp only [Bool.and_eq_true] at h
    obtain ⟨⟨⟨⟨⟨h1, h2⟩, h3⟩, h4⟩, h5⟩, h6⟩ := h
    have sub : ∀ l : List GStmt, SizeOf.sizeOf l < SizeOf.sizeOf s → boundB t lo l = true → boundB t lo (foldB l) = true := by
      intro l hl hb
      refine place_bound t lo ?_
      rw [boundB_iff] at hb ⊢
      rw [foldSs_map]
      refine ⟨fun x hx => ?_, by simpa using hb.2⟩
      obtain ⟨y, hy, rfl⟩ := List.mem_map.1 hx
      have := List.sizeOf_lt_of_mem hy
      exact foldS_bound N y (by omega) (hb.1 y hy)
    have e0 : foldB [] = [] := rfl
    rw [foldS_eq, boundS_eq]
    simp only [Bool.and_eq_true]
    refine ⟨⟨⟨⟨⟨shape_fold s h1 _ _ _ (by rw [foldEs_map, List.length_map]) ?_ ?_, ?_⟩, ?_⟩, ?_⟩, ?_⟩, ?_⟩
    · intro e; rw [List.length_eq_zero_iff.1 e, e0]; rfl
    · intro e; rw [List.length_eq_zero_iff.1 e, e0]; rfl
    · exact h2
    · simp only [Bool.or_eq_true, decide_eq_true_eq] at h3 ⊢
      refine h3.imp id fun hc => ?_
      unfold callM at hc ⊢
      simp only [decide_eq_true_eq, partsS_A, foldEs_map, List.getElem?_map] at hc ⊢
      cases hA : s.Args[0]? with
      | none => rw [hA] at hc; exact absurd hc (by decide)
      | some x => rw [hA] at hc; simp only [Option.map_some, Option.getD_some] at hc ⊢; exact fold_call hc
    · rw [List.all_eq_true] at h4 ⊢
      intro x hx
      have hx : x ∈ foldEs s.Args := hx
      rw [foldEs_map] at hx
      obtain ⟨y, hy, rfl⟩ := List.mem_map.1 hx
      exact foldE_bound t lo (h4 y hy)
    · exact sub s.Body (by cases s; simp only [GStmt.Body, GStmt.mk.sizeOf_spec]; omega) h5
    · exact sub s.Else (by cases s; simp only [GStmt.Else, GStmt.mk.sizeOf_spec]; omega) h6
theorem foldB_bound {l : List GStmt} (h : boundB t lo l = true) : boundB t lo (foldB l) = true := by
  refine place_bound t lo ?_
  rw [boundB_iff] at h ⊢
  rw [foldSs_map]
  refine ⟨fun x hx => ?_, by simpa using h.2⟩
  obtain ⟨y, hy, rfl⟩ := List.mem_map.1 hx
  exact foldS_bound t lo _ y (Nat.lt_succ_self _) (h.1 y hy)
end
end Go.Ab

namespace Go.Ab
open Go.Proofs
mutual
def dE : GExpr → Nat
  | .mk _ _ _ _ l => dEs l + 1
def dEs : List GExpr → Nat
  | [] => 0
  | x :: l => max (dE x) (dEs l)
end
theorem dE_eq (e : GExpr) : dE e = dEs e.Args + 1 := by cases e; rw [dE]; rfl
theorem dEs_le {l : List GExpr} {n : Nat} : dEs l ≤ n ↔ ∀ x ∈ l, dE x ≤ n := by
  induction l with
  | nil => simp [dEs]
  | cons x l ih => rw [dEs]; simp [Nat.max_le, ih]
mutual
def dS : GStmt → Nat
  | .mk _ _ _ a b c => max (dEs a) (max (if b.isEmpty then 0 else dSs b + 1) (if c.isEmpty then 0 else dSs c + 1))
def dSs : List GStmt → Nat
  | [] => 0
  | x :: l => max (dS x) (dSs l)
end
def dB (l : List GStmt) : Nat := if l.isEmpty then 0 else dSs l + 1
theorem dS_eq (s : GStmt) : dS s = max (dEs s.Args) (max (dB s.Body) (dB s.Else)) := by cases s; rw [dS]; rfl
theorem dSs_le {l : List GStmt} {n : Nat} : dSs l ≤ n ↔ ∀ x ∈ l, dS x ≤ n := by
  induction l with
  | nil => simp [dSs]
  | cons x l ih => rw [dSs]; simp [Nat.max_le, ih]
theorem dB_le {l : List GStmt} {n : Nat} (h : ∀ x ∈ l, dS x + 1 ≤ n) : dB l ≤ n := by
  unfold dB
  cases l with
  | nil => simp
  | cons x l =>
    have h1 : dSs (x :: l) ≤ n - 1 := dSs_le.2 fun y hy => by have := h y hy; omega
    have := h x (by simp)
    simp only [List.isEmpty_cons, Bool.false_eq_true, if_false]; omega
theorem dB_mem {l : List GStmt} {x : GStmt} (h : x ∈ l) : dS x + 1 ≤ dB l := by
  have := (dSs_le (l := l)).1 (Nat.le_refl _) x h
  unfold dB
  cases l with
  | nil => cases h
  | cons y l => simp only [List.isEmpty_cons, Bool.false_eq_true, if_false]; omega
theorem deepE_min : ∀ (N : Nat), (∀ e : GExpr, SizeOf.sizeOf e < N → ∀ m : Int, 1 ≤ m → deepM e m = min (dE e : Int) m) ∧ (∀ l : List GExpr, SizeOf.sizeOf l < N → ∀ m n : Int, 1 ≤ m → 0 ≤ n → deepsM l m n = max n (min (dEs l : Int) m))
  | 0 => ⟨fun e h => by omega, fun l h => by omega⟩
  | N + 1 => by
    obtain ⟨ih1, ih2⟩ := deepE_min N
    refine ⟨fun e he m hm => ?_, fun l hl m n hm hn => ?_⟩
    · rw [deepM_eq, dE_eq]
      by_cases h1 : 1 < m
      · rw [if_pos h1, ih2 e.Args (by cases e; simp only [GExpr.Args, GExpr.mk.sizeOf_spec] at *; omega) (m - 1) 0 (by omega) (by omega)]
        omega
      · rw [if_neg h1]; omega
    · cases l with
      | nil => rw [deepsM, dEs]; omega
      | cons x l =>
        simp only [List.cons.sizeOf_spec] at hl
        have hx := ih1 x (by omega) m hm
        rw [deepsM, hx, dEs]
        split
        · rw [ih2 l (by omega) m _ hm (by omega)]; omega
        · rw [ih2 l (by omega) m n hm hn]; omega
theorem deepsM_min (l : List GExpr) (m n : Int) (hm : 1 ≤ m) (hn : 0 ≤ n) : deepsM l m n = max n (min (dEs l : Int) m) := (deepE_min _).2 l (Nat.lt_succ_self _) m n hm hn
theorem greaterM_max (a b : Int) : greaterM a b = max a b := by unfold greaterM; split <;> omega
theorem deepS_min : ∀ (N : Nat), (∀ s : GStmt, SizeOf.sizeOf s < N → ∀ m n : Int, 1 ≤ m → 0 ≤ n → deepS s m n = max n (min (dS s : Int) m)) ∧ (∀ l : List GStmt, SizeOf.sizeOf l < N → ∀ m n : Int, 1 ≤ m → 0 ≤ n → deepSs l m n = max n (min (dSs l : Int) m)) ∧ (∀ l : List GStmt, SizeOf.sizeOf l < N → ∀ m : Int, 1 ≤ m → deepB l m = min (dB l : Int) m)
  | 0 => ⟨fun e h => by omega, fun l h => by omega, fun l h => by omega⟩
  | N + 1 => by
    obtain ⟨ih1, ih2, ih3⟩ := deepS_min N
    have h2 : ∀ l : List GStmt, SizeOf.sizeOf l < N + 1 → ∀ m n : Int, 1 ≤ m → 0 ≤ n → deepSs l m n = max n (min (dSs l : Int) m) := by
      intro l
      induction l with
      | nil => intro _ m n hm hn; rw [deepSs, dSs]; omega
      | cons x l ih =>
        intro hl m n hm hn
        simp only [List.cons.sizeOf_spec] at hl
        have hx := ih1 x (by omega) m n hm hn
        rw [deepSs, hx, dSs, ih (by omega) m _ hm (by omega)]; omega
    refine ⟨fun s hs m n hm hn => ?_, h2, fun l hl m hm => ?_⟩
    · rw [deepS_eq, dS_eq, greaterM_max, greaterM_max, deepsM_min _ m n hm hn, ih3 s.Body (by cases s; simp only [GStmt.Body, GStmt.mk.sizeOf_spec] at *; omega) m hm, ih3 s.Else (by cases s; simp only [GStmt.Else, GStmt.mk.sizeOf_spec] at *; omega) m hm]
      omega
    · unfold deepB dB
      cases l with
      | nil => simp; omega
      | cons x l =>
        simp only [List.isEmpty_cons, Bool.false_eq_true, if_false]
        by_cases h1 : 1 < m
        · rw [if_pos h1, h2 _ hl (m - 1) 0 (by omega) (by omega)]; omega
        · rw [if_neg h1]; omega
theorem deepB_min (l : List GStmt) (m : Int) (hm : 1 ≤ m) : deepB l m = min (dB l : Int) m := (deepS_min _).2.2 l (Nat.lt_succ_self _) m hm
theorem red_depth (e : GExpr) : dE (redE e) ≤ dE e := by
  have hn : ∀ n, dE (numX n) ≤ dE e := fun n => by
    have h1 : dE (numX n) = 1 := by simp [numX, dE, dEs]
    have h2 := dE_eq e
    omega
  unfold redE
  repeat' split
  all_goals first | exact hn _ | exact Nat.le_refl _
theorem foldE_depth : ∀ (N : Nat) (e : GExpr), SizeOf.sizeOf e < N → dE (foldE e) ≤ dE e
  | 0, e, h => by omega
  | N + 1, e, h => by
    rw [foldE_eq]
    refine Nat.le_trans (red_depth _) ?_
    rw [dE_eq, dE_eq e, argsE_A]
    refine Nat.succ_le_succ (dEs_le.2 fun x hx => ?_)
    rw [foldEs_map] at hx
    obtain ⟨y, hy, rfl⟩ := List.mem_map.1 hx
    have h1 := List.sizeOf_lt_of_mem hy
    refine Nat.le_trans (foldE_depth N y (by cases e; simp only [GExpr.Args, GExpr.mk.sizeOf_spec] at *; omega)) (dEs_le.1 (Nat.le_refl _) y hy)
theorem foldEs_depth (l : List GExpr) : dEs (foldEs l) ≤ dEs l := by
  refine dEs_le.2 fun x hx => ?_
  rw [foldEs_map] at hx
  obtain ⟨y, hy, rfl⟩ := List.mem_map.1 hx
  exact Nat.le_trans (foldE_depth _ y (Nat.lt_succ_self _)) (dEs_le.1 (Nat.le_refl _) y hy)
theorem place_depth {L : List GStmt} {n : Nat} (h : ∀ s ∈ L, dS s + 1 ≤ n) : dB (placeB L) ≤ n := by
  refine dB_le fun x hx => ?_
  obtain ⟨s, hs, hx⟩ := mem_place L.length hx
  have h1 := h s hs
  have h2 := dS_eq s
  rcases hx with rfl | hx | hx
  · exact h1
  · have := dB_mem hx; omega
  · have := dB_mem hx; omega
theorem foldS_depth : ∀ (N : Nat) (s : GStmt), SizeOf.sizeOf s < N → dS (foldS s) ≤ dS s
  | 0, s, h => by omega
  | N + 1, s, h => by
    have sub : ∀ l : List GStmt, SizeOf.sizeOf l < SizeOf.sizeOf s → dB (foldB l) ≤ dB l := by
      intro l hl
      refine place_depth fun x hx => ?_
      rw [foldSs_map] at hx
      obtain ⟨y, hy, rfl⟩ := List.mem_map.1 hx
      have h1 := List.sizeOf_lt_of_mem hy
      have h2 := foldS_depth N y (by omega)
      have h3 := dB_mem hy
      omega
    rw [foldS_eq, dS_eq, dS_eq s]
    simp only [partsS_A, partsS_B, partsS_E]
    have h1 := foldEs_depth s.Args
    have h2 := sub s.Body (by cases s; simp only [GStmt.Body, GStmt.mk.sizeOf_spec]; omega)
    have h3 := sub s.Else (by cases s; simp only [GStmt.Else, GStmt.mk.sizeOf_spec]; omega)
    omega
theorem foldB_depth (l : List GStmt) : dB (foldB l) ≤ dB l := by
  refine place_depth fun x hx => ?_
  rw [foldSs_map] at hx
  obtain ⟨y, hy, rfl⟩ := List.mem_map.1 hx
  have h2 := foldS_depth _ y (Nat.lt_succ_self _)
  have h3 := dB_mem hy
  omega
theorem has_place {k : Int} {L : List GStmt} (h : hasKB k (placeB L) = true) : hasKB k L = true := by
  rw [hasKB_any, List.any_eq_true] at h ⊢
  obtain ⟨x, hx, hk⟩ := h
  obtain ⟨s, hs, hx⟩ := mem_place L.length hx
  refine ⟨s, hs, ?_⟩
  rcases hx with rfl | hx | hx
  · exact hk
  · rw [hasKS_eq, Bool.or_eq_true, Bool.or_eq_true]
    exact .inl (.inr (by rw [hasKB_any, List.any_eq_true]; exact ⟨x, hx, hk⟩))
  · rw [hasKS_eq, Bool.or_eq_true, Bool.or_eq_true]
    exact .inr (by rw [hasKB_any, List.any_eq_true]; exact ⟨x, hx, hk⟩)
theorem has_foldS {k : Int} : ∀ (N : Nat) (s : GStmt), SizeOf.sizeOf s < N → hasKS k (foldS s) = true → hasKS k s = true
  | 0, s, h, _ => by omega
  | N + 1, s, h, hk => by
    have sub : ∀ l : List GStmt, SizeOf.sizeOf l < SizeOf.sizeOf s → hasKB k (foldB l) = true → hasKB k l = true := by
      intro l hl hb
      have hb := has_place hb
      rw [hasKB_any, List.any_eq_true] at hb ⊢
      obtain ⟨x, hx, hk⟩ := hb
      rw [foldSs_map] at hx
      obtain ⟨y, hy, rfl⟩ := List.mem_map.1 hx
      have h1 := List.sizeOf_lt_of_mem hy
      exact ⟨y, hy, has_foldS N y (by omega) hk⟩
    rw [foldS_eq, hasKS_eq] at hk
    rw [hasKS_eq]
    simp only [partsS_K, partsS_B, partsS_E, Bool.or_eq_true] at hk ⊢
    rcases hk with (hk | hk) | hk
    · exact .inl (.inl hk)
    · exact .inl (.inr (sub s.Body (by cases s; simp only [GStmt.Body, GStmt.mk.sizeOf_spec]; omega) hk))
    · exact .inr (sub s.Else (by cases s; simp only [GStmt.Else, GStmt.mk.sizeOf_spec]; omega) hk)
theorem has_fold {k : Int} {l : List GStmt} (h : hasKB k (foldB l) = true) : hasKB k l = true := by
  have hb := has_place h
  rw [hasKB_any, List.any_eq_true] at hb ⊢
  obtain ⟨x, hx, hk⟩ := hb
  rw [foldSs_map] at hx
  obtain ⟨y, hy, rfl⟩ := List.mem_map.1 hx
  exact ⟨y, hy, has_foldS _ y (Nat.lt_succ_self _) hk⟩
theorem foldK_right {b : GBook} (h : rightBookB b = true) : rightBookB (foldK b) = true := by
  unfold rightBookB foldK at *
  simp only [Bool.and_eq_true, decide_eq_true_eq, List.length_map, List.all_eq_true] at h ⊢
  obtain ⟨⟨h1, h2⟩, h3⟩ := h
  refine ⟨⟨h1, h2⟩, fun i hi => ?_⟩
  have hi2 : i < b.Routines.length := by simpa using hi
  have hg := h3 i hi
  unfold goodR at hg ⊢
  simp only [List.getElem?_map, List.getElem?_eq_getElem hi2, Option.map_some, Option.getD_some] at hg ⊢
  generalize b.Routines[i] = l at *
  simp only [Bool.and_eq_true, decide_eq_true_eq, Bool.or_eq_true, Bool.not_eq_true'] at hg ⊢
  obtain ⟨⟨⟨g1, g2⟩, g3⟩, g4⟩ := hg
  have hn : ∀ k, hasKB k l = false → hasKB k (foldB l) = false := by
    intro k hk
    cases hh : hasKB k (foldB l) with
    | false => rfl
    | true => rw [has_fold hh] at hk; cases hk
  refine ⟨⟨⟨?_, foldB_bound b.Tables _ g2⟩, g3.imp (hn 12) id⟩, g4.imp (hn 13) id⟩
  have hd := foldB_depth l
  rw [deepB_min _ 65 (by omega)] at g1 ⊢
  omega
end Go.Ab

namespace Go.Ab
open Go.Proofs
theorem numX_wf {n : Int} (h : -32768 ≤ n ∧ n ≤ 32767) : (numX n).wf := by
  rw [GExpr.wf_iff]
  refine ⟨?_, ?_, ?_, ?_, ?_, ?_⟩
  · show inR .i64 1; rw [inR_i64]; omega
  · show inR .i64 0; rw [inR_i64]; omega
  · show inR .i64 n; rw [inR_i64]; omega
  · show (0 : Nat) ≤ _; omega
  · show (0 : Nat) * 64 ≤ _; omega
  · intro y hy; exact absurd hy (by show y ∉ []; simp)
theorem tru_bd (c : Bool) : -32768 ≤ tru c ∧ tru c ≤ 32767 := by cases c <;> simp [tru]
theorem red_wf {e : GExpr} (h : e.wf) : (redE e).wf := by
  unfold redE
  repeat' split
  all_goals first
    | exact h
    | exact numX_wf (bin_bd _ _ _)
    | exact numX_wf (wrapM_bd _)
    | exact numX_wf (tru_bd _)
    | exact numX_wf (by omega)
theorem foldE_wf' : ∀ (N : Nat) (e : GExpr), SizeOf.sizeOf e < N → e.wf → (foldE e).wf
  | 0, e, hN, _ => by omega
  | N + 1, e, hN, h => by
    rw [foldE_eq]
    refine red_wf ?_
    rw [GExpr.wf_iff] at h ⊢
    simp only [argsE_K, argsE_O, argsE_N, argsE_S, argsE_A, foldEs_map, List.length_map]
    refine ⟨h.1, h.2.1, h.2.2.1, h.2.2.2.1, h.2.2.2.2.1, fun x hx => ?_⟩
    obtain ⟨y, hy, rfl⟩ := List.mem_map.1 hx
    have h1 := List.sizeOf_lt_of_mem hy
    exact foldE_wf' N y (by cases e; simp only [GExpr.Args, GExpr.mk.sizeOf_spec] at *; omega) (h.2.2.2.2.2 y hy)
theorem foldE_wf {e : GExpr} (h : e.wf) : (foldE e).wf := foldE_wf' _ e (Nat.lt_succ_self _) h
theorem place_wf {L : List GStmt} (h : ∀ s ∈ L, s.wf) : ∀ x ∈ placeB L, x.wf := by
  intro x hx
  obtain ⟨s, hs, hx⟩ := mem_place L.length hx
  rcases hx with rfl | hx | hx
  · exact h x hs
  · exact GStmt.wf_Body (h s hs) x hx
  · exact GStmt.wf_Else (h s hs) x hx
section
variable {t : GTables} {lo : Int}
theorem foldS_wf' : ∀ (N : Nat) (s : GStmt), SizeOf.sizeOf s < N → boundS t lo s = true → s.wf → (foldS s).wf
  | 0, s, hN, _, _ => by omega
  | N + 1, s, hN, hb, h => by
    rw [boundS_eq] at hb
    simp only [Bool.and_eq_true] at hb
    have sub : ∀ l : List GStmt, SizeOf.sizeOf l < SizeOf.sizeOf s → boundB t lo l = true → (∀ x ∈ l, x.wf) → (∀ x ∈ foldB l, x.wf) ∧ (foldB l).length ≤ 256 := by
      intro l hl hbl hw
      refine ⟨place_wf fun x hx => ?_, ((boundB_iff t lo _).1 (foldB_bound t lo hbl)).2⟩
      rw [foldSs_map] at hx
      obtain ⟨y, hy, rfl⟩ := List.mem_map.1 hx
      have h1 := List.sizeOf_lt_of_mem hy
      exact foldS_wf' N y (by omega) (((boundB_iff t lo _).1 hbl).1 y hy) (hw y hy)
    obtain ⟨b1, b2⟩ := sub s.Body (by cases s; simp only [GStmt.Body, GStmt.mk.sizeOf_spec]; omega) hb.1.2 (GStmt.wf_Body h)
    obtain ⟨c1, c2⟩ := sub s.Else (by cases s; simp only [GStmt.Else, GStmt.mk.sizeOf_spec]; omega) hb.2 (GStmt.wf_Else h)
    rw [foldS_eq, GStmt.wf_iff]
    simp only [partsS_K, partsS_N, partsS_S, partsS_A, partsS_B, partsS_E]
    refine ⟨GStmt.wf_Kind h, GStmt.wf_Num h, GStmt.wf_Name h, by rw [foldEs_map, List.length_map]; exact GStmt.wl_Args h, fun x hx => ?_, by omega, b1, by omega, c1⟩
    rw [foldEs_map] at hx
    obtain ⟨y, hy, rfl⟩ := List.mem_map.1 hx
    exact foldE_wf (GStmt.wf_Args h y hy)
theorem foldS_wf {s : GStmt} (hb : boundS t lo s = true) (h : s.wf) : (foldS s).wf := foldS_wf' _ s (Nat.lt_succ_self _) hb h
theorem foldB_wf {l : List GStmt} (hb : boundB t lo l = true) (hw : ∀ x ∈ l, x.wf) : (∀ x ∈ foldB l, x.wf) ∧ (foldB l).length ≤ 256 := by
  refine ⟨place_wf fun x hx => ?_, ((boundB_iff t lo _).1 (foldB_bound t lo hb)).2⟩
  rw [foldSs_map] at hx
  obtain ⟨y, hy, rfl⟩ := List.mem_map.1 hx
  exact foldS_wf (((boundB_iff t lo _).1 hb).1 y hy) (hw y hy)
end
theorem right_bound {b : GBook} (h : rightBookB b = true) {i : Nat} (hi : i < b.Routines.length) : boundB b.Tables (b.Tables.Locals[i]?.getD 0) b.Routines[i] = true := by
  unfold rightBookB at h
  simp only [Bool.and_eq_true, decide_eq_true_eq, List.all_eq_true] at h
  have hg := h.2 i (by simpa using hi)
  unfold goodR at hg
  simp only [List.getElem?_eq_getElem hi, Option.getD_some, Bool.and_eq_true] at hg
  exact hg.1.1.2
theorem foldK_wf {b : GBook} (h : rightBookB b = true) (hb : b.wf) : (foldK b).wf := by
  refine ⟨hb.1, ?_, fun l hl => ?_⟩
  · show (b.Routines.map foldB).length * 24 ≤ _; rw [List.length_map]; exact hb.2.1
  · have hl : l ∈ b.Routines.map foldB := hl
    obtain ⟨y, hy, rfl⟩ := List.mem_map.1 hl
    obtain ⟨i, hi, rfl⟩ := List.getElem_of_mem hy
    obtain ⟨h1, h2⟩ := foldB_wf (right_bound h hi) (hb.2.2 _ hy).2
    exact ⟨by omega, h1⟩
end Go.Ab

namespace Go.Ab
open Go.Proofs
set_option maxHeartbeats 4000000
set_option maxRecDepth 20000
theorem fBit_ok (c : Bool) : Pure Tryz.prog 110 [.d (.v (.bool c))] (intD (tru c)) := by
  cases c
  · refine Pure.run Tryz.func110 rfl (by simp [Tryz.f110]) ?_; simp [-cB, Tryz.f110]
    rfl
  · refine Pure.run Tryz.func110 rfl (by simp [Tryz.f110]) ?_; simp [-cB, Tryz.f110]
    rfl
theorem rTruth_ok (c : Bool) : Pure Tryz.prog 116 [.d (.v (.bool c))] (intD (tru c)) := by
  cases c
  · refine Pure.run Tryz.func116 rfl (by simp [Tryz.f116]) ?_; simp [-cB, Tryz.f116]
    rfl
  · refine Pure.run Tryz.func116 rfl (by simp [Tryz.f116]) ?_; simp [-cB, Tryz.f116]
    rfl
theorem numX_deep (n : Int) : (V.agg ((numX n).enc.map .d)) = .agg [.d (.v (.int .i64 1)), .d (.v (.int .i64 0)), .d (.v (.int .i64 n)), .d (.v (.string ⟨#[]⟩)), .d (.sl [])] := rfl
theorem fNumber_ok (n : Int) : Pure Tryz.prog 109 [intD n] (.agg ((numX n).enc.map .d)) := by
  rw [numX_deep]
  refine Pure.run Tryz.func109 rfl (by simp [Tryz.f109]) ?_; simp [-cB, Tryz.f109]
theorem rNum_ok (n : Int) : Pure Tryz.prog 114 [intD n] (.agg ((numX n).enc.map .d)) := by
  rw [numX_deep]
  refine Pure.run Tryz.func114 rfl (by simp [Tryz.f114]) ?_; simp [-cB, Tryz.f114]
theorem fKnown_ok (e : GExpr) : Pure Tryz.prog 29 [.agg (e.enc.map .d)] (.tup [intD e.Num, boolD (decide (e.Kind = 1))]) := by
  refine Pure.run Tryz.func29 rfl (by simp [Tryz.f29]) ?_; simp [-cB, Tryz.f29]
  intro bs
  refine AWP.regionD [] Tryz.mixed (by kernel_rfl) (by rfl) ?_
  simp [-cB]
theorem rNumber_ok (e : GExpr) : Pure Tryz.prog 31 [.agg (e.enc.map .d)] (boolD (decide (e.Kind = 1))) := by
  refine Pure.run Tryz.func31 rfl (by simp [Tryz.f31]) ?_; simp [-cB, Tryz.f31]
theorem noT (x : Int) : isT GWorld.zero.Parent.length x = false := by
  rw [Bool.eq_false_iff]
  intro h
  have h1 := isT_iff.1 h
  have h2 : (GWorld.zero.Parent.length : Int) = 0 := rfl
  omega
theorem fBin_ok (op a b : Int) : Pure Tryz.prog 113 [intD op, intD a, intD b] (.tup [intD (binR GWorld.zero op a b).1, boolD (decide ((binR GWorld.zero op a b).2 = 0))]) := by
  have hd := div_ok (wrapM a) (wrapM b)
  have hm := mod_ok (wrapM a) (wrapM b)
  by_cases h9 : op = 9
  · subst h9
    have h0 : isT GWorld.zero.Parent.length (wrapM a) = false := noT (wrapM a)
    have h : binR GWorld.zero 9 a b = (0, 11) := by unfold binR; simp [h0]
    rw [h]
    refine Pure.run Tryz.func113 rfl (by simp [Tryz.f113]) ?_; simp [-cB, Tryz.f113]
    repeat' (first
      | (with_reducible refine And.intro ?_ ?_)
      | (refine condC_split (fun h => ?_) (fun h => ?_) <;> (try simp at h) <;> (try simp [-cB, *]))
      | (refine AOps.pureC rfl (wrap_ok _) rfl rfl (by simp) rfl ?_ <;> (try simp [-cB, *]))
      | (refine AOps.lendC rfl (wrap_ok _) rfl (by simp) rfl rfl (by simp) rfl ?_ <;> (try simp [-cB, *]))
      | (refine AOps.pureG rfl (fun h => wrap_ok _) rfl (by first | rfl | (simp; rfl)) (by simp) (by simp) rfl ?_ <;> (try simp [-cB, *]))
      | (with_reducible intro _))
  · unfold binR
    generalize divM (wrapM a) (wrapM b) = pd at *
    generalize modM (wrapM a) (wrapM b) = pm at *
    obtain ⟨d1, d2⟩ := pd
    obtain ⟨m1, m2⟩ := pm
    unfold pr2 at hd hm
    refine Pure.run Tryz.func113 rfl (by simp [Tryz.f113]) ?_; simp [-cB, Tryz.f113]
    repeat' (first
      | (with_reducible refine And.intro ?_ ?_)
      | (refine condC_split (fun h => ?_) (fun h => ?_) <;> (try simp at h) <;> (try simp [-cB, *]))
      | (refine AOps.pureC rfl (wrap_ok _) rfl rfl (by simp) rfl ?_ <;> (try simp [-cB, *]))
      | (refine AOps.pureC rfl (fBit_ok _) rfl rfl (by simp) rfl ?_ <;> (try simp [-cB, *]))
      | (refine AOps.pureC rfl (add_ok _ _) rfl rfl (by simp) rfl ?_ <;> (try simp [-cB, *]))
      | (refine AOps.pureC rfl (sub_ok _ _) rfl rfl (by simp) rfl ?_ <;> (try simp [-cB, *]))
      | (refine AOps.pureC rfl (mul_ok _ _) rfl rfl (by simp) rfl ?_ <;> (try simp [-cB, *]))
      | (refine AOps.pureC rfl (hd) rfl rfl (by simp) rfl ?_ <;> (try simp [-cB, *]))
      | (refine AOps.pureC rfl (hm) rfl rfl (by simp) rfl ?_ <;> (try simp [-cB, *]))
      | (refine AOps.lendC rfl (wrap_ok _) rfl (by simp) rfl rfl (by simp) rfl ?_ <;> (try simp [-cB, *]))
      | (refine AOps.lendC rfl (fBit_ok _) rfl (by simp) rfl rfl (by simp) rfl ?_ <;> (try simp [-cB, *]))
      | (refine AOps.lendC rfl (add_ok _ _) rfl (by simp) rfl rfl (by simp) rfl ?_ <;> (try simp [-cB, *]))
      | (refine AOps.lendC rfl (sub_ok _ _) rfl (by simp) rfl rfl (by simp) rfl ?_ <;> (try simp [-cB, *]))
      | (refine AOps.lendC rfl (mul_ok _ _) rfl (by simp) rfl rfl (by simp) rfl ?_ <;> (try simp [-cB, *]))
      | (refine AOps.lendC rfl (hd) rfl (by simp) rfl rfl (by simp) rfl ?_ <;> (try simp [-cB, *]))
      | (refine AOps.lendC rfl (hm) rfl (by simp) rfl rfl (by simp) rfl ?_ <;> (try simp [-cB, *]))
      | (refine AOps.pureG rfl (fun h => wrap_ok _) rfl (by first | rfl | (simp; rfl)) (by simp) (by simp) rfl ?_ <;> (try simp [-cB, *]))
      | (refine AOps.pureG rfl (fun h => fBit_ok _) rfl (by first | rfl | (simp; rfl)) (by simp) (by simp) rfl ?_ <;> (try simp [-cB, *]))
      | (refine AOps.pureG rfl (fun h => add_ok _ _) rfl (by first | rfl | (simp; rfl)) (by simp) (by simp) rfl ?_ <;> (try simp [-cB, *]))
      | (refine AOps.pureG rfl (fun h => sub_ok _ _) rfl (by first | rfl | (simp; rfl)) (by simp) (by simp) rfl ?_ <;> (try simp [-cB, *]))
      | (refine AOps.pureG rfl (fun h => mul_ok _ _) rfl (by first | rfl | (simp; rfl)) (by simp) (by simp) rfl ?_ <;> (try simp [-cB, *]))
      | (refine AOps.pureG rfl (fun h => hd) rfl (by first | rfl | (simp; rfl)) (by simp) (by simp) rfl ?_ <;> (try simp [-cB, *]))
      | (refine AOps.pureG rfl (fun h => hm) rfl (by first | rfl | (simp; rfl)) (by simp) (by simp) rfl ?_ <;> (try simp [-cB, *]))
      | (with_reducible intro _))
    all_goals (try rfl)
def holdM (op a b : Int) : Bool × Bool :=
  if op = 1 then (decide (wrapM a ≠ 0) || decide (wrapM b ≠ 0), true)
  else if op = 2 then (decide (wrapM a ≠ 0) && decide (wrapM b ≠ 0), true)
  else if op = 3 then (decide (wrapM a = wrapM b), true)
  else if op = 4 then (decide (wrapM a ≠ wrapM b), true)
  else if op = 5 then (decide (wrapM a < wrapM b), true)
  else if op = 6 then (decide (wrapM a ≤ wrapM b), true)
  else if op = 7 then (decide (wrapM b < wrapM a), true)
  else if op = 8 then (decide (wrapM b ≤ wrapM a), true)
  else (false, false)
theorem rHolds_ok (op a b : Int) : Pure Tryz.prog 152 [intD op, intD a, intD b] (.tup [boolD (holdM op a b).1, boolD (holdM op a b).2]) := by
  unfold holdM
  refine Pure.run Tryz.func152 rfl (by simp [Tryz.f152]) ?_; simp [-cB, Tryz.f152]
  repeat' (first
    | (with_reducible refine And.intro ?_ ?_)
    | (refine condC_split (fun h => ?_) (fun h => ?_) <;> (try simp at h) <;> (try simp [-cB, *]))
    | (refine AOps.pureC rfl (refWrap_ok _) rfl rfl (by simp) rfl ?_ <;> (try simp [-cB, *]))
    | (refine AOps.lendC rfl (refWrap_ok _) rfl (by simp) rfl rfl (by simp) rfl ?_ <;> (try simp [-cB, *]))
    | (refine AOps.pureG rfl (fun h => refWrap_ok _) rfl (by first | rfl | (simp; rfl)) (by simp) (by simp) rfl ?_ <;> (try simp [-cB, *]))
    | (with_reducible intro _))
  all_goals (try rfl)
theorem hold_t {op a b : Int} {H : Bool} (h : holdM op a b = (H, true)) : binR GWorld.zero op a b = (tru H, 0) := by
  unfold holdM at h
  unfold binR
  by_cases h1 : op = 1; · rw [if_pos h1] at h ⊢; rw [(Prod.mk.inj h).1]
  rw [if_neg h1] at h ⊢
  by_cases h2 : op = 2; · rw [if_pos h2] at h ⊢; rw [(Prod.mk.inj h).1]
  rw [if_neg h2] at h ⊢
  by_cases h3 : op = 3; · rw [if_pos h3] at h ⊢; rw [(Prod.mk.inj h).1]
  rw [if_neg h3] at h ⊢
  by_cases h4 : op = 4; · rw [if_pos h4] at h ⊢; rw [(Prod.mk.inj h).1]
  rw [if_neg h4] at h ⊢
  by_cases h5 : op = 5; · rw [if_pos h5] at h ⊢; rw [(Prod.mk.inj h).1]
  rw [if_neg h5] at h ⊢
  by_cases h6 : op = 6; · rw [if_pos h6] at h ⊢; rw [(Prod.mk.inj h).1]
  rw [if_neg h6] at h ⊢
  by_cases h7 : op = 7; · rw [if_pos h7] at h ⊢; rw [(Prod.mk.inj h).1]
  rw [if_neg h7] at h ⊢
  by_cases h8 : op = 8; · rw [if_pos h8] at h ⊢; rw [(Prod.mk.inj h).1]
  rw [if_neg h8] at h
  cases h
theorem hold_f {op a b : Int} {H : Bool} (h : holdM op a b = (H, false)) : op < 1 ∨ 8 < op := by
  unfold holdM at h
  by_cases h1 : op = 1; · rw [if_pos h1] at h; cases h
  rw [if_neg h1] at h
  by_cases h2 : op = 2; · rw [if_pos h2] at h; cases h
  rw [if_neg h2] at h
  by_cases h3 : op = 3; · rw [if_pos h3] at h; cases h
  rw [if_neg h3] at h
  by_cases h4 : op = 4; · rw [if_pos h4] at h; cases h
  rw [if_neg h4] at h
  by_cases h5 : op = 5; · rw [if_pos h5] at h; cases h
  rw [if_neg h5] at h
  by_cases h6 : op = 6; · rw [if_pos h6] at h; cases h
  rw [if_neg h6] at h
  by_cases h7 : op = 7; · rw [if_pos h7] at h; cases h
  rw [if_neg h7] at h
  by_cases h8 : op = 8; · rw [if_pos h8] at h; cases h
  omega
theorem rBin_ok (op a b : Int) (ha : wrapM a = a) : Pure Tryz.prog 117 [intD op, intD a, intD b] (.tup [intD (binR GWorld.zero op a b).1, boolD (decide ((binR GWorld.zero op a b).2 = 0))]) := by
  have hh := rHolds_ok op a b
  have e1 : addM (wrapM a) (wrapM b) = addM a b := by unfold addM; rw [wrapM_wrapM, wrapM_wrapM]
  have e2 : subM (wrapM a) (wrapM b) = subM a b := by unfold subM; rw [wrapM_wrapM, wrapM_wrapM]
  have e3 : mulM (wrapM a) (wrapM b) = mulM a b := by unfold mulM; rw [wrapM_wrapM, wrapM_wrapM]
  have e4 : divM (wrapM a) (wrapM b) = divM a b := by unfold divM; rw [wrapM_wrapM, wrapM_wrapM]
  have e5 : modM (wrapM a) (wrapM b) = modM a b := by unfold modM; rw [wrapM_wrapM, wrapM_wrapM]
  have hd := refDiv_ok a b
  have hm := refMod_ok a b
  obtain ⟨H1, H2⟩ : ∃ H, holdM op a b = H := ⟨_, rfl⟩
  rw [H2] at hh
  obtain ⟨H1, H3⟩ := H1
  cases H3 with
  | true =>
    rw [hold_t H2]
    refine Pure.run Tryz.func117 rfl (by simp [Tryz.f117]) ?_; simp [-cB, Tryz.f117]
    refine AOps.pureC rfl (hh) rfl rfl (by simp) rfl ?_
    simp [-cB]
    refine AOps.pureC rfl (rTruth_ok _) rfl rfl (by simp) rfl ?_
    simp [-cB]
  | false =>
    have h18 := hold_f H2
    have h0 := noT (wrapM a)
    unfold binR
    rw [e1, e2, e3, e4, e5, h0, if_neg (by omega), if_neg (by omega), if_neg (by omega), if_neg (by omega), if_neg (by omega), if_neg (by omega), if_neg (by omega), if_neg (by omega)]
    generalize divM a b = pd at *
    generalize modM a b = pm at *
    obtain ⟨d1, d2⟩ := pd
    obtain ⟨m1, m2⟩ := pm
    unfold pr2 at hd hm
    clear e1 e2 e3 e4 e5 H2
    refine Pure.run Tryz.func117 rfl (by simp [Tryz.f117]) ?_; simp [-cB, Tryz.f117]
    refine AOps.pureC rfl (hh) rfl rfl (by simp) rfl ?_
    simp [-cB]
    repeat' (first
      | (with_reducible refine And.intro ?_ ?_)
      | (refine condC_split (fun h => ?_) (fun h => ?_) <;> (try simp at h) <;> (try simp [-cB, *]))
      | (refine AOps.pureC rfl (refAdd_ok _ _) rfl rfl (by simp) rfl ?_ <;> (try simp [-cB, *]))
      | (refine AOps.pureC rfl (refSub_ok _ _) rfl rfl (by simp) rfl ?_ <;> (try simp [-cB, *]))
      | (refine AOps.pureC rfl (refMul_ok _ _) rfl rfl (by simp) rfl ?_ <;> (try simp [-cB, *]))
      | (refine AOps.pureC rfl (hd) rfl rfl (by simp) rfl ?_ <;> (try simp [-cB, *]))
      | (refine AOps.pureC rfl (hm) rfl rfl (by simp) rfl ?_ <;> (try simp [-cB, *]))
      | (refine AOps.lendC rfl (refAdd_ok _ _) rfl (by simp) rfl rfl (by simp) rfl ?_ <;> (try simp [-cB, *]))
      | (refine AOps.lendC rfl (refSub_ok _ _) rfl (by simp) rfl rfl (by simp) rfl ?_ <;> (try simp [-cB, *]))
      | (refine AOps.lendC rfl (refMul_ok _ _) rfl (by simp) rfl rfl (by simp) rfl ?_ <;> (try simp [-cB, *]))
      | (refine AOps.lendC rfl (hd) rfl (by simp) rfl rfl (by simp) rfl ?_ <;> (try simp [-cB, *]))
      | (refine AOps.lendC rfl (hm) rfl (by simp) rfl rfl (by simp) rfl ?_ <;> (try simp [-cB, *]))
      | (refine AOps.pureG rfl (fun h => refAdd_ok _ _) rfl (by first | rfl | (simp; rfl)) (by simp) (by simp) rfl ?_ <;> (try simp [-cB, *]))
      | (refine AOps.pureG rfl (fun h => refSub_ok _ _) rfl (by first | rfl | (simp; rfl)) (by simp) (by simp) rfl ?_ <;> (try simp [-cB, *]))
      | (refine AOps.pureG rfl (fun h => refMul_ok _ _) rfl (by first | rfl | (simp; rfl)) (by simp) (by simp) rfl ?_ <;> (try simp [-cB, *]))
      | (refine AOps.pureG rfl (fun h => hd) rfl (by first | rfl | (simp; rfl)) (by simp) (by simp) rfl ?_ <;> (try simp [-cB, *]))
      | (refine AOps.pureG rfl (fun h => hm) rfl (by first | rfl | (simp; rfl)) (by simp) (by simp) rfl ?_ <;> (try simp [-cB, *]))
      | (with_reducible intro _))
    all_goals (split <;> simp)
end Go.Ab

namespace Go.Ab
mutual
def V.frb (h : Nat) (ds : List D) : V → V
  | .bp i o => if i = h then .rp (ds.drop o) else .bp i o
  | .rv i => if i = h then .any else .rv i
  | .ep i k a b => if i = h then .any else .ep i k a b
  | .clo fn f c => .clo fn (V.frbs h ds f) (V.frbs h ds c)
  | .agg cs => .agg (V.frbs h ds cs)
  | .tup cs => .tup (V.frbs h ds cs)
  | .gd b x => .gd b (V.frb h ds x)
  | .d x => .d x
  | .rp cs => .rp cs
  | .sv i n => if i = h then .any else .sv i n
  | .kn Q => .kn Q
  | .any => .any
def V.frbs (h : Nat) (ds : List D) : List V → List V
  | [] => []
  | x :: l => V.frb h ds x :: V.frbs h ds l
end
theorem frbs_eq (h : Nat) (ds : List D) : ∀ l : List V, V.frbs h ds l = l.map (V.frb h ds)
  | [] => by simp [V.frbs]
  | x :: l => by simp [V.frbs, frbs_eq h ds l]
@[simp] theorem frbs_dmap (h : Nat) (ds : List D) (l : List D) : V.frbs h ds (l.map V.d) = l.map V.d := by
  rw [frbs_eq, List.map_map]
  apply List.map_congr_left
  intro x _
  simp [V.frb]
def Res.frb (h : Nat) (ds : List D) : Res → Res
  | .box b ty cs => .box b ty (V.frbs h ds cs)
  | .row ty k xs => .row ty k (xs.map (V.frbs h ds))
  | .env A => .env A
  | .mp es => .mp es
section
variable {P : Program} {w w' : World} {fo : FO} {m m' : Nat → Option Value} {L : Heap} {n : Nat} {s : St}
theorem RelV.frb {O O' : Nat → Prop} {h : Nat} {ds : List D} (hO : ∀ b, O' b → O b) (hm : ∀ i x, i ≠ h → m i = some x → m' i = some x) (hy : ∀ b off, m h = some (.pointer (some ⟨b, 0, none⟩)) → RelV w O' m' (.pointer (some ⟨b, off, none⟩)) (.rp (ds.drop off))) {x : Value} {z : V} (hr : RelV w O m x z) : RelV w O' m' x (V.frb h ds z) := by
  induction hr with
  | d x y hd => simpa [V.frb] using RelV.d x y (hd.mono (Keep.refl w _) (fun b _ hb => hO b hb))
  | bp i off b e =>
    simp only [V.frb]
    split
    · rename_i hh; subst hh; exact hy b off e
    · rename_i hne; exact .bp i off b (hm _ _ hne e)
  | rv i x e e1 =>
    simp only [V.frb]
    split
    · exact .any _
    · rename_i hne; exact .rv i x (hm _ _ hne e) e1
  | ep i k p q b o n c e =>
    simp only [V.frb]
    split
    · exact .any _
    · rename_i hne; exact .ep i k p q b o n c (hm _ _ hne e)
  | rp b off cs f hb hlt hc hr => simpa [V.frb] using RelV.rp (m := m') b off cs f (fun h => hb (hO b h)) hlt hc (fun j y hy => (hr j y hy).mono (Keep.refl w _) (fun b _ hb => hO b hb))
  | sv i n b cap e hc hx =>
    simp only [V.frb]
    split
    · exact .any _
    · rename_i hne; exact .sv i n b cap (hm _ _ hne e) hc hx
  | clo fn first caps cf cc s1 s2 h1 h2 ih1 ih2 =>
    simp only [V.frb, frbs_eq]
    refine .clo fn first caps _ _ (by simpa using s1) (by simpa using s2) ?_ ?_
    · intro j x y' hx hy'
      rw [List.getElem?_map] at hy'
      obtain ⟨z, hz, rfl⟩ := Option.map_eq_some_iff.1 hy'
      exact ih1 j x z hx hz
    · intro j x y' hx hy'
      rw [List.getElem?_map] at hy'
      obtain ⟨z, hz, rfl⟩ := Option.map_eq_some_iff.1 hy'
      exact ih2 j x z hx hz
  | agg vs cs hs h1 h2 ih =>
    simp only [V.frb, frbs_eq]
    refine .agg vs _ (by simpa using hs) h1 ?_
    intro j x y' hx hy'
    rw [List.getElem?_map] at hy'
    obtain ⟨z, hz, rfl⟩ := Option.map_eq_some_iff.1 hy'
    exact ih j x z hx hz
  | tup vs cs hs h2 ih =>
    simp only [V.frb, frbs_eq]
    refine .tup vs _ (by simpa using hs) ?_
    intro j x y' hx hy'
    rw [List.getElem?_map] at hy'
    obtain ⟨z, hz, rfl⟩ := Option.map_eq_some_iff.1 hy'
    exact ih j x z hx hz
  | gt x y h ih => simpa [V.frb] using RelV.gt _ _ ih
  | gf y => simpa [V.frb] using RelV.gf _
  | kn x Q h => simpa [V.frb] using RelV.kn (m := m') x Q h
  | any x => simpa [V.frb] using RelV.any _
theorem Res.Holds.frb {O O' : Nat → Prop} {h : Nat} {ds : List D} (hO : ∀ b, O' b → O b) (hm : ∀ i x, i ≠ h → m i = some x → m' i = some x) (hy : ∀ b off, m h = some (.pointer (some ⟨b, 0, none⟩)) → RelV w O' m' (.pointer (some ⟨b, off, none⟩)) (.rp (ds.drop off))) {x : Value} {r : Res} (hr : r.Holds w O m x) : (r.frb h ds).Holds w O' m' x := by
  cases r with
  | box b ty cs =>
    obtain ⟨bb, hbb, cur, rfl, h1, h2, h3, h4⟩ := hr
    refine ⟨bb, hbb, cur, rfl, h1, by rw [frbs_eq, List.length_map]; exact h2, h3, fun j v c hv hc => ?_⟩
    rw [frbs_eq, List.getElem?_map] at hc
    obtain ⟨z, hz, rfl⟩ := Option.map_eq_some_iff.1 hc
    exact (h4 j v z hv hz).frb hO hm hy
  | row ty k xs =>
    rcases hr with ⟨h1, h2⟩ | ⟨b, off, cap, cur, rfl, h1, h2, h3, h4, h5, h6, h7⟩
    · exact .inl ⟨h1, by simp [h2]⟩
    · refine .inr ⟨b, off, cap, cur, by rw [List.length_map], h1, by rw [List.length_map]; exact h2, h3, h4, ?_, h6, ?_⟩
      · intro i x hx
        rw [List.getElem?_map] at hx
        obtain ⟨z, hz, rfl⟩ := Option.map_eq_some_iff.1 hx
        rw [frbs_eq, List.length_map]
        exact h5 i z hz
      · intro i j x y' v hx hy' hv
        rw [List.getElem?_map] at hx
        obtain ⟨z, hz, rfl⟩ := Option.map_eq_some_iff.1 hx
        rw [frbs_eq, List.getElem?_map] at hy'
        obtain ⟨u, hu, rfl⟩ := Option.map_eq_some_iff.1 hy'
        exact (h7 i j z u v hz hu hv).frb hO hm hy
  | env A => exact A.mono hr (fun _ _ => rfl) (Keep.refl w _) (fun b _ h => hO b h)
  | mp es => exact mapH_mono hr (fun _ _ => rfl) (Keep.refl w _) (fun b _ h => hO b h)
def frbL (h : Nat) (ds : List D) : Heap → Heap
  | [] => []
  | (i, r) :: l => if i = h then frbL h ds l else (i, Res.frb h ds r) :: frbL h ds l
theorem frbL_eq (h : Nat) (ds : List D) : ∀ L : Heap, frbL h ds L = (L.filter fun p => p.1 != h).map fun p => (p.1, p.2.frb h ds)
  | [] => rfl
  | (i, r) :: l => by
    rw [frbL, frbL_eq h ds l]
    by_cases hi : i = h <;> simp [hi]
theorem Wk.freezeB (h : Nat) {b0 : Nat} {ty : TypeId} {ds : List D} (hl : s.L.lookup h = some (.box b0 ty (ds.map .d))) : Wk n s ⟨s.fr.map fun p => (p.1, V.frb h ds p.2), frbL h ds s.L⟩ := by
  rw [frbL_eq]
  intro fo m a w g
  let m' : Nat → Option Value := fun i => if i = h then none else m i
  have hm'1 : ∀ i x, m' i = some x → m i = some x ∧ i ≠ h := by
    intro i x hx
    simp only [m'] at hx
    split at hx
    · cases hx
    · rename_i hne; exact ⟨hx, hne⟩
  have hm'2 : ∀ i x, i ≠ h → m i = some x → m' i = some x := by
    intro i x hne hx
    simp only [m', if_neg hne]; exact hx
  have hown : ∀ b, Ab.own m' b → Ab.own m b := by
    rintro b ⟨i, x, hx, hb⟩
    exact ⟨i, x, (hm'1 i x hx).1, hb⟩
  have hOO : ∀ b, OO fo m' b → OO fo m b := fun b hb => hb.imp (hown b) id
  have hi := g.inv
  have hy : ∀ b off, m h = some (.pointer (some ⟨b, 0, none⟩)) → RelV w (OO fo m') m' (.pointer (some ⟨b, off, none⟩)) (.rp (ds.drop off)) := by
    intro b off hv
    obtain ⟨x, hx, bb, _, cur, rfl, hb, hs, h1, h2⟩ := hi.holds h _ (lookup_mem hl)
    rw [hv] at hx
    simp only [Option.some.injEq, Value.pointer.injEq, Addr.mk.injEq] at hx
    obtain ⟨rfl, _⟩ := hx
    rw [List.length_map] at hs
    refine .rp b off _ (fun j => cur.getD (off + j) undef) ?_ (Array.getElem?_eq_some_iff.1 hb).1 (fun j hj => ?_) (fun j y hy => ?_)
    · rintro (⟨i, x, hx, hb'⟩ | hf)
      · have := hi.apart h i _ x b hv (hm'1 i x hx).1 rfl hb'
        exact (hm'1 i x hx).2 this.symm
      · exact hi.others h _ b hv rfl hf
    · have hlt : off + j < cur.size := by simp at hj; omega
      simp [World.cell?, hb, Array.getD, hlt]
    · rw [List.getElem?_drop] at hy
      have hlt : off + j < cur.size := by have := (List.getElem?_eq_some_iff.1 hy).1; omega
      have h3 := h2 (off + j) _ (.d y) (Array.getElem?_eq_getElem hlt) (by rw [List.getElem?_map, hy]; rfl)
      have h4 : RelD w (OO fo m) cur[off + j] y := by
        generalize cur[off + j] = v at h3
        cases h3 with
        | d _ _ h4 => exact h4
      have h5 := h4.mono (Keep.refl w _) (fun b _ hb => hOO b hb)
      simpa [Array.getD, hlt] using h5
  refine ⟨m', ⟨g.size, ?_, ⟨?_, ?_, ?_, ?_, hi.folt, ?_, hi.glob.mono (Keep.refl w _) (fun b _ hb => hOO b hb)⟩, g.defers⟩, ⟨rfl, rfl, rfl, Nat.le_refl _, fun _ _ _ => rfl, fun b _ hb => hown b hb⟩⟩
  · intro t x hx
    obtain ⟨p, hp, e⟩ := List.mem_map.1 hx
    simp only [Prod.mk.injEq] at e
    obtain ⟨rfl, rfl⟩ := e
    obtain ⟨h1, h2⟩ := g.fr p.1 p.2 hp
    exact ⟨h1, h2.frb hOO hm'2 hy⟩
  · have : keys ((s.L.filter fun p => p.1 != h).map fun p => (p.1, p.2.frb h ds)) = (keys s.L).filter fun i => i != h := by
      simp only [keys, List.map_map, List.filter_map]
      rfl
    show (keys ((s.L.filter fun p => p.1 != h).map fun p => (p.1, p.2.frb h ds))).Nodup
    rw [this]
    exact hi.nodup.filter _
  · intro i x hx
    obtain ⟨h1, h2⟩ := hm'1 i x hx
    have := hi.dom i x h1
    simp only [keys, List.mem_map] at this ⊢
    obtain ⟨p, hp, rfl⟩ := this
    exact ⟨_, ⟨p, List.mem_filter.2 ⟨hp, by simpa using h2⟩, rfl⟩, rfl⟩
  · intro i i' x x' b hx hx' hb hb'
    exact hi.apart i i' x x' b (hm'1 i x hx).1 (hm'1 i' x' hx').1 hb hb'
  · intro i x b hx hb
    exact hi.others i x b (hm'1 i x hx).1 hb
  · intro i r hr
    obtain ⟨p, hp, e⟩ := List.mem_map.1 hr
    simp only [Prod.mk.injEq] at e
    obtain ⟨rfl, rfl⟩ := e
    obtain ⟨hp1, hp2⟩ := List.mem_filter.1 hp
    obtain ⟨x, hx, hh⟩ := hi.holds p.1 p.2 hp1
    exact ⟨x, hm'2 _ _ (by simpa using hp2) hx, hh.frb hOO hm'2 hy⟩
attribute [simp] V.frb V.frbs Res.frb frbL
end
end Go.Ab

namespace Go.Ab
open Go.Proofs
set_option maxHeartbeats 4000000
set_option maxRecDepth 20000
theorem fAt_ok (E y : GExpr) (i : Nat) (h : E.Args[i]? = some y) : Pure Tryz.prog 108 [intD i, .rp E.enc] (.tup [intD y.Num, boolD (decide (y.Kind = 1))]) := by
  obtain ⟨hi, he⟩ := List.getElem?_eq_some_iff.1 h
  have hk := fKnown_ok y
  refine Pure.run Tryz.func108 rfl (by simp [Tryz.f108]) ?_; simp [-cB, Tryz.f108]
  rw [h]
  refine ⟨hi, ?_⟩
  simp [-cB]
  refine AOps.pureC rfl (hk) rfl rfl (by simp) rfl ?_
  simp [-cB]
theorem redE_1 {e y : GExpr} (h : e.Args = [y]) : redE e = if y.Kind = 1 then (if e.Kind = 4 then numX (negM y.Num) else if e.Kind = 5 then numX (tru (decide (wrapM y.Num = 0))) else e) else e := by unfold redE; rw [h]
theorem redE_2 {e y z : GExpr} (h : e.Args = [y, z]) : redE e = if e.Kind = 6 ∧ y.Kind = 1 then
      (if z.Kind = 1 ∧ (binR GWorld.zero e.Op y.Num z.Num).2 = 0 then numX (binR GWorld.zero e.Op y.Num z.Num).1
       else if e.Op = 2 ∧ wrapM y.Num = 0 then numX 0 else if e.Op = 1 ∧ wrapM y.Num ≠ 0 then numX 1 else e) else e := by unfold redE; rw [h]
theorem redE_n {e : GExpr} (h4 : e.Kind ≠ 4) (h5 : e.Kind ≠ 5) (h6 : e.Kind ≠ 6) : redE e = e := by
  unfold redE
  split
  · rw [if_neg h4, if_neg h5]; split <;> rfl
  · rw [if_neg (fun h => h6 h.1)]
  · rfl
section
variable (t : GTables) (lo : Int)
theorem fold_ar {e : GExpr} {said : Bool} (h : boundM t lo e said = true) : ((e.Kind = 4 ∨ e.Kind = 5) → ∃ y, e.Args = [y]) ∧ (e.Kind = 6 → ∃ y z, e.Args = [y, z]) ∧ (e.Kind = 1 → -32768 ≤ e.Num ∧ e.Num ≤ 32767) := by
  rw [boundM_eq, Bool.and_eq_true] at h
  have h := h.1
  unfold boundK at h
  refine ⟨fun hk => ?_, fun hk => ?_, fun hk => ?_⟩
  · have hk2 : e.Kind = 4 ∨ e.Kind = 5 ∨ e.Kind = 11 := by omega
    rw [if_neg (by omega), if_neg (by omega), if_neg (by omega), if_neg (by omega), if_pos hk2] at h
    unfold bareM at h
    simp only [Bool.and_eq_true, decide_eq_true_eq] at h
    have h1 := h.1.1.1
    exact List.length_eq_one_iff.1 (by omega)
  · rw [if_neg (by omega), if_neg (by omega), if_neg (by omega), if_neg (by omega), if_neg (by omega), if_neg (by omega), if_pos hk] at h
    unfold bareM at h
    simp only [Bool.and_eq_true, decide_eq_true_eq] at h
    have h1 := h.1.1.1.1
    have h2 : e.Args.length = 2 := by omega
    generalize e.Args = l at h2
    match l, h2 with
    | [y, z], _ => exact ⟨y, z, rfl⟩
  · rw [if_pos hk] at h
    simp only [Bool.and_eq_true, isM, decide_eq_true_eq] at h
    exact h.2
theorem fRed_ok (k o n : Int) (s : ByteArray) (l l0 : List GExpr) (said : Bool) (hall : boundM t lo (.mk k o n s l) said = true) (hx : Pure Tryz.prog 28 [.d (.sl (l0.map GExpr.enc))] (.d (.sl (l.map GExpr.enc)))) :
    Pure Tryz.prog 61 [.agg ((GExpr.mk k o n s l0).enc.map .d)] (.agg ((redE (.mk k o n s l)).enc.map .d)) := by
  obtain ⟨a1, a2, -⟩ := fold_ar t lo hall
  have hE : (GExpr.mk k o n s l).enc = [.v (.int .i64 k), .v (.int .i64 o), .v (.int .i64 n), .v (.string s), .sl (l.map GExpr.enc)] := by rw [GExpr.enc, GExpr.encs_eq]
  have hAt := fun i y (h : l[i]? = some y) => fAt_ok (.mk k o n s l) y i h
  rw [hE] at hAt
  refine Pure.runA Tryz.func61 rfl (by simp [Tryz.f61]) ?_
  simp only [Tryz.f61]
  refine AWP.seqK ?_
  simp [-cB]
  intro bs
  refine AWP.seqK ?_
  simp [-cB]
  refine AOps.pureC rfl (hx) rfl rfl (by simp) rfl ?_
  simp [-cB]
  refine AWP.weaken (Wk.freezeB 1 (ds := [.v (.int .i64 k), .v (.int .i64 o), .v (.int .i64 n), .v (.string s), .sl (l.map GExpr.enc)]) rfl) ?_
  simp only [GExpr.Kind, GExpr.Args] at a1 a2
  have hyb : ∀ y r, l = y :: r → y.Kind = 1 → wrapM y.Num = y.Num := by
    rintro y r rfl hy
    rw [boundM_eq, Bool.and_eq_true] at hall
    have h2 : boundsM t lo (y :: r) = true := hall.2
    rw [boundsM, Bool.and_eq_true] at h2
    exact wrapM_id ((fold_ar t lo h2.1).2.2 hy)
  by_cases h5 : k = 5
  · subst h5
    obtain ⟨y, rfl⟩ := a1 (.inr rfl)
    have hA0 := hAt 0 y rfl
    have hR : redE (.mk 5 o n s [y]) = if y.Kind = 1 then numX (tru (decide (wrapM y.Num = 0))) else .mk 5 o n s [y] := by
      rw [redE_1 (y := y) rfl]; rfl
    rw [hR]
    refine AWP.ofK ?_
    simp [-cB]
    refine AOps.pureC rfl (hA0) rfl rfl (by simp) rfl ?_
    by_cases hy : y.Kind = 1
    · simp [-cB, hy]
      refine AOps.pureC rfl ((wrap_ok y.Num)) rfl rfl (by simp) rfl ?_
      simp [-cB]
      refine AOps.pureC rfl ((fBit_ok _)) rfl rfl (by simp) rfl ?_
      simp [-cB]
      refine AOps.pureC rfl ((fNumber_ok _)) rfl rfl (by simp) rfl ?_
      simp [-cB, numX_deep]
    · simp [-cB, hy, hE]
  by_cases h4 : k = 4
  · subst h4
    obtain ⟨y, rfl⟩ := a1 (.inl rfl)
    have hA0 := hAt 0 y rfl
    have hR : redE (.mk 4 o n s [y]) = if y.Kind = 1 then numX (negM y.Num) else .mk 4 o n s [y] := by
      rw [redE_1 (y := y) rfl]; rfl
    rw [hR]
    refine AWP.ofK ?_
    simp [-cB]
    refine AOps.pureC rfl (hA0) rfl rfl (by simp) rfl ?_
    by_cases hy : y.Kind = 1
    · simp [-cB, hy]
      refine AOps.pureC rfl ((neg_ok y.Num)) rfl rfl (by simp) rfl ?_
      simp [-cB]
      refine AOps.pureC rfl ((fNumber_ok _)) rfl rfl (by simp) rfl ?_
      simp [-cB, numX_deep]
    · simp [-cB, hy, hE]
  by_cases h6 : k = 6
  · subst h6
    obtain ⟨y, z, rfl⟩ := a2 rfl
    have hA0 := hAt 0 y rfl
    have hA1 := hAt 1 z rfl
    have hB := fBin_ok o y.Num z.Num
    have hw := hyb y [z] rfl
    have hR : redE (.mk 6 o n s [y, z]) = if y.Kind = 1 then (if z.Kind = 1 ∧ (binR GWorld.zero o y.Num z.Num).2 = 0 then numX (binR GWorld.zero o y.Num z.Num).1 else if o = 2 ∧ wrapM y.Num = 0 then numX 0 else if o = 1 ∧ wrapM y.Num ≠ 0 then numX 1 else .mk 6 o n s [y, z]) else .mk 6 o n s [y, z] := by
      rw [redE_2 (y := y) (z := z) rfl]
      by_cases hy : y.Kind = 1
      · rw [if_pos hy, if_pos ⟨rfl, hy⟩]; rfl
      · rw [if_neg hy, if_neg (fun h => hy h.2)]
    rw [hR]
    obtain ⟨r, hr⟩ : ∃ r, binR GWorld.zero o y.Num z.Num = r := ⟨_, rfl⟩
    rw [hr] at hB ⊢
    refine AWP.ofK ?_
    simp [-cB]
    refine AOps.pureC rfl (hA0) rfl rfl (by simp) rfl ?_
    simp [-cB]
    refine AOps.pureC rfl (hA1) rfl rfl (by simp) rfl ?_
    by_cases hy : y.Kind = 1
    · have hw := hw hy
      rw [if_pos hy, hw]
      by_cases hzk : z.Kind = 1
      · simp [-cB, hy, hzk]
        refine AOps.pureC rfl (hB) rfl rfl (by simp) rfl ?_
        by_cases hr0 : r.2 = 0
        · rw [if_pos hr0]
          simp [-cB, hr0]
          refine AOps.pureC rfl ((fNumber_ok _)) rfl rfl (by simp) rfl ?_
          simp [-cB, numX_deep]
        · rw [if_neg hr0]
          simp [-cB, hr0, hy]
          by_cases hA : o = 2 ∧ y.Num = 0
          · obtain ⟨rfl, h0⟩ := hA
            simp [-cB, h0]
            refine AOps.pureC rfl ((fNumber_ok 0)) rfl rfl (by simp) rfl ?_
            simp [-cB, numX_deep]
          · have eA : (decide (o = 2) && decide (y.Num = 0)) = false := by rw [← Bool.decide_and]; exact decide_eq_false hA
            by_cases hO : o = 1 ∧ y.Num ≠ 0
            · obtain ⟨rfl, h0⟩ := hO
              have hb : (y.Num != 0) = true := by simpa using h0
              simp [-cB, h0, hb]
              refine AOps.pureC rfl ((fNumber_ok 1)) rfl rfl (by simp) rfl ?_
              simp [-cB, numX_deep]
            · have eO : (decide (o = 1) && (y.Num != 0)) = false := by
                by_cases h1 : o = 1
                · have h0 : y.Num = 0 := by
                    by_cases h0 : y.Num = 0
                    · exact h0
                    · exact absurd ⟨h1, h0⟩ hO
                  simp [h0]
                · simp [h1]
              rw [if_neg hA, if_neg hO]
              simp [-cB, eA, eO, hE]
      · rw [if_neg (fun h => hzk h.1)]
        simp [-cB, hy, hzk]
        by_cases hA : o = 2 ∧ y.Num = 0
        · obtain ⟨rfl, h0⟩ := hA
          simp [-cB, h0]
          refine AOps.pureC rfl ((fNumber_ok 0)) rfl rfl (by simp) rfl ?_
          simp [-cB, numX_deep]
        · have eA : (decide (o = 2) && decide (y.Num = 0)) = false := by rw [← Bool.decide_and]; exact decide_eq_false hA
          by_cases hO : o = 1 ∧ y.Num ≠ 0
          · obtain ⟨rfl, h0⟩ := hO
            have hb : (y.Num != 0) = true := by simpa using h0
            simp [-cB, h0, hb]
            refine AOps.pureC rfl ((fNumber_ok 1)) rfl rfl (by simp) rfl ?_
            simp [-cB, numX_deep]
          · have eO : (decide (o = 1) && (y.Num != 0)) = false := by
              by_cases h1 : o = 1
              · have h0 : y.Num = 0 := by
                  by_cases h0 : y.Num = 0
                  · exact h0
                  · exact absurd ⟨h1, h0⟩ hO
                simp [h0]
              · simp [h1]
            rw [if_neg hA, if_neg hO]
            simp [-cB, eA, eO, hE]
    · simp [-cB, hy, hE]
  · have hR : redE (.mk k o n s l) = .mk k o n s l := redE_n h4 h5 h6
    rw [hR, hE]
    refine AWP.ofK ?_
    simp [-cB, h4, h5, h6]
theorem fExprs_of (l : List GExpr) (hlen : l.length * 64 ≤ 140737488351232) (ih : ∀ x ∈ l, Pure Tryz.prog 61 [.agg (x.enc.map .d)] (.agg ((foldE x).enc.map .d))) : Pure Tryz.prog 28 [.d (.sl (l.map GExpr.enc))] (.d (.sl ((foldEs l).map GExpr.enc))) := by
  refine Pure.run Tryz.func28 rfl (by simp [Tryz.f28]) ?_; simp [-cB, Tryz.f28]
  refine AWP.weaken (Wk.own' (t := 3) (h := 5101) (k := 5) (ty := 75) (by rfl) (by simp [keys])) ?_
  refine AWP.loopL [3, 6, 7, 8] l (fun pre => [(8, .d (.v (.int .i64 pre.length)))]) (fun pre => [(5101, .row 75 5 (dd ((foldEs pre).map GExpr.enc)))]) (fun _ => True) (by rfl) (by omega) (by simp [foldEs]) ?_ ?_
  · rintro pre x post hsp - hlt hge a4
    have hx := ih x (by rw [hsp]; simp)
    have hfl : (foldEs pre).length = pre.length := by rw [foldEs_map, List.length_map]
    have hfs : foldEs (pre ++ [x]) = foldEs pre ++ [foldE x] := by simp [foldEs_map]
    clear hsp ih
    simp [-cB, hlt, hge]
    intro bs
    refine AOps.pureC rfl (hx) rfl rfl (by simp) rfl ?_
    simp [-cB, a4, hfs, hfl]
    omega
  · intro _
    simp [-cB]
theorem bound_args {e : GExpr} {said : Bool} (h : boundM t lo e said = true) : boundM t lo (argsE e (foldEs e.Args)) said = true := by
  rw [boundM_eq, Bool.and_eq_true] at h ⊢
  refine ⟨by rw [boundK_args t lo e _ (by rw [foldEs_map, List.length_map])]; exact h.1, ?_⟩
  have h2 := h.2
  rw [boundsM_all, List.all_eq_true] at h2 ⊢
  intro x hx
  have hx : x ∈ foldEs e.Args := hx
  rw [foldEs_map] at hx
  obtain ⟨y, hy, rfl⟩ := List.mem_map.1 hx
  exact foldE_bound t lo (h2 y hy)
theorem fExpr_ok' : ∀ (N : Nat) (e : GExpr), SizeOf.sizeOf e < N → ∀ said, boundM t lo e said = true → e.wf → Pure Tryz.prog 61 [.agg (e.enc.map .d)] (.agg ((foldE e).enc.map .d)) := by
  intro N
  induction N with
  | zero => intro e hN; omega
  | succ N ih =>
    intro e hN said h hw
    have hb := bound_args t lo h
    have hx := fExprs_of e.Args (GExpr.wl_Args hw) fun x hx => by
      rw [boundM_eq, Bool.and_eq_true] at h
      have h2 := h.2
      rw [boundsM_all, List.all_eq_true] at h2
      have h3 := List.sizeOf_lt_of_mem hx
      exact ih x (by cases e; simp only [GExpr.Args, GExpr.mk.sizeOf_spec] at *; omega) false (h2 x hx) (GExpr.wf_Args hw x hx)
    rw [foldE_eq]
    obtain ⟨k, o, n, s, l0⟩ := e
    exact fRed_ok t lo k o n s (foldEs l0) l0 said hb hx
theorem fExprs_ok (l : List GExpr) (hlen : l.length * 64 ≤ 140737488351232) (hw : ∀ x ∈ l, x.wf) (sd : Bool) (hb : ∀ x ∈ l, boundM t lo x sd = true) : Pure Tryz.prog 28 [.d (.sl (l.map GExpr.enc))] (.d (.sl ((foldEs l).map GExpr.enc))) :=
  fExprs_of l hlen fun x hx => fExpr_ok' t lo _ x (Nat.lt_succ_self _) sd (hb x hx) (hw x hx)
end
end Go.Ab

namespace Go.Ab
def Ordr (l : Array Oper) : Nat → Array Bool → List Nat → Prop
  | 0, _, L => L = []
  | f + 1, ls, L => (Region.ready .any l ls = [] ∧ L = []) ∨ ∃ i L', L = i :: L' ∧ i ∈ Region.ready .any l ls ∧ Ordr l f (ls.setIfInBounds i true) L'
theorem linearise_ordr l : ∀ f t ls, Ordr l f ls (Region.linearise.go .any l f t ls []) := by
  intro f
  induction f with
  | zero => intro t ls; rfl
  | succ f ih =>
    intro t ls
    change Ordr l (f + 1) ls (match (Region.ready .any l ls)[t % (Region.ready .any l ls).length]? with
      | some i => Region.linearise.go .any l f (t / (Region.ready .any l ls).length) (ls.setIfInBounds i true) [i]
      | none => [].reverse)
    cases hi : (Region.ready .any l ls)[t % (Region.ready .any l ls).length]? with
    | none =>
      left
      refine ⟨?_, rfl⟩
      cases hr : Region.ready .any l ls with
      | nil => rfl
      | cons x xs =>
        simp_all [Nat.mod_lt]
    | some i =>
      right
      grind [List.mem_of_getElem?, Region.ready, linearise_go_acc]
theorem Ordr.run {F} {n} {P} {l} {Q} : ∀ f ls L a w, wpAnyIn F n P .any l Q f ls a w → Ordr l f ls L → wpOpsIn F n P l Q L a w := by
  intro f
  induction f with
  | zero => intro ls L a w h hL; rw [show L = [] from hL]; exact h.2
  | succ f ih =>
    intro ls L a w h hL
    rcases hL with ⟨h1, rfl⟩ | ⟨i, L', rfl, hi, hL'⟩
    · exact h.1 h1
    · exact wpOpIn_mono (fun a w h2 => ih _ _ a w h2 hL') (h.2 i hi)
def addE : List Oper → Nat → Nat → List Oper
  | [], _, _ => []
  | o :: l, 0, i => { o with after := o.after.push ⟨i, .data⟩ } :: l
  | o :: l, j + 1, i => o :: addE l j i
theorem addE_len : ∀ l j i, (addE l j i).length = l.length
  | [], _, _ => rfl
  | _ :: _, 0, _ => rfl
  | o :: l, j + 1, i => by simp [addE, addE_len]
theorem addE_ne {k} : ∀ l j i, k ≠ j → (addE l j i)[k]? = l[k]?
  | [], _, _, _ => rfl
  | o :: l, 0, i, h => by
    cases k with
    | zero => omega
    | succ k => rfl
  | o :: l, j + 1, i, h => by
    cases k with
    | zero => rfl
    | succ k => simpa [addE] using addE_ne l j i (by omega)
theorem addE_eq : ∀ l j i, (addE l j i)[j]? = (l[j]?).map fun o => { o with after := o.after.push ⟨i, .data⟩ }
  | [], _, _ => rfl
  | o :: l, 0, i => rfl
  | o :: l, j + 1, i => by simp [addE, addE_eq]
theorem getD_true {ls : Array Bool} {i} (h : ls.getD i true = false) b : i < ls.size ∧ ls.getD i b = false := by
  grind
theorem ready_ne {l} {j i k} {ls} (h : k ≠ j) : k ∈ Region.ready .any (addE l j i).toArray ls ↔ k ∈ Region.ready .any l.toArray ls := by
  simp_all [mem_ready, addE_ne]
theorem ready_sub {l} {j i k} {ls} (h : k ∈ Region.ready .any (addE l j i).toArray ls) : k ∈ Region.ready .any l.toArray ls := by
  by_cases hk : k = j
  · subst hk
    rw [mem_ready] at h ⊢
    obtain ⟨h1, o, h2, h3⟩ := h
    simp  [addE_eq] at h2
    grind
  simp_all [ready_ne]
theorem ready_listed {l} {j i k} {ls} (hi : ls.getD i false = true) (h : k ∈ Region.ready .any l.toArray ls) : k ∈ Region.ready .any (addE l j i).toArray ls := by
  by_cases hk : k = j
  · rw [mem_ready] at h ⊢
    obtain ⟨h1, o, h2, h3⟩ := h
    refine ⟨h1, { o with after := o.after.push ⟨i, .data⟩ }, ?_, fun e he hb => ?_⟩
    · simp_all [addE_eq]
    grind
  simp_all [ready_ne]
theorem ready_nil_sub {l} {j i} {ls} (h : Region.ready .any l.toArray ls = []) : Region.ready .any (addE l j i).toArray ls = [] := by
  rw [List.eq_nil_iff_forall_not_mem] at h ⊢
  exact fun k hk => h k (ready_sub hk)
theorem getD_setT {ls : Array Bool} {i k} (h : ls.getD k false = true) : (ls.setIfInBounds i true).getD k false = true := by
  by_cases hk : i = k
  · rcases Nat.lt_or_ge i ls.size with h' | h'
    · simp_all
    grind
  simp_all
theorem Ordr.add {l} {j i} : ∀ f ls L, ls.getD i false = true → Ordr l.toArray f ls L → Ordr (addE l j i).toArray f ls L := by
  intro f
  induction f with
  | zero => intro ls L _ h; exact h
  | succ f ih =>
    intro ls L hi h
    rcases h with ⟨h1, h2⟩ | ⟨k, L', h1, h2, h3⟩
    · exact .inl ⟨ready_nil_sub h1, h2⟩
    · exact .inr ⟨k, L', h1, ready_listed hi h2, ih _ _ (getD_setT hi) h3⟩
theorem Ordr.split {l} {i j} (hij : i ≠ j) : ∀ f ls L, Ordr l.toArray f ls L → Ordr (addE l j i).toArray f ls L ∨ Ordr (addE l i j).toArray f ls L := by
  intro f
  induction f with
  | zero => intro ls L h; exact .inl h
  | succ f ih =>
    intro ls L h
    rcases h with ⟨h1, h2⟩ | ⟨k, L', h1, h2, h3⟩
    · exact .inl (.inl ⟨ready_nil_sub h1, h2⟩)
    · have hset : (ls.setIfInBounds k true).getD k false = true := by
        have := (getD_true (mem_ready.1 h2).1 false).1
        simp_all
      by_cases hki : k = i
      · subst hki
        exact .inl (.inr ⟨k, L', h1, (ready_ne hij).2 h2, h3.add f _ _ hset⟩)
      · by_cases hkj : k = j
        · subst hkj
          exact .inr (.inr ⟨k, L', h1, (ready_ne (Ne.symm hij)).2 h2, h3.add f _ _ hset⟩)
        · rcases ih _ _ h3 with h4 | h4
          · exact .inl (.inr ⟨k, L', h1, (ready_ne hkj).2 h2, h4⟩)
          · exact .inr (.inr ⟨k, L', h1, (ready_ne hki).2 h2, h4⟩)
structure Alike (q : Nat → Nat) (o o' : Oper) : Prop where
  dst : o'.dst = o.dst
  op : o'.op = o.op
  type : o'.type = o.type
  pos : o'.pos = o.pos
  guard : o'.guard = o.guard.map fun g => (q g.1, g.2)
theorem Alike.wpIn {q} {o o'} (h : Alike q o o') {F} {n} {P} {a} {w} {K} {Q} : o'.wpIn F n P a w K Q = o.wpIn F n P a w K Q := by
  obtain ⟨h1, h2, h3, h4, h5⟩ := h
  obtain ⟨d, p, t, s, af, g⟩ := o
  subst h1; subst h2; subst h3; rfl
theorem wpOps_alike {q} {l l'} (h : ∀ i, (l[i]? = none ∧ l'[q i]? = none) ∨ ∃ o o', l[i]? = some o ∧ l'[q i]? = some o' ∧ Alike q o o') {F} {n} {P} {Q} :
    ∀ L a w, wpOpsIn F n P l' Q (L.map q) a w → wpOpsIn F n P l Q L a w := by
  have hy : ∀ tm j, yielded l' tm (q j) = yielded l tm j := by
    intro tm j
    unfold yielded
    rcases h j with ⟨h1, h2⟩ | ⟨o, o', h1, h2, h3⟩
    · grind
    · rw [h1, h2]; simp  [Option.bind_some, h3.dst]
  intro L
  induction L with
  | nil => intro a w h; exact h
  | cons i L ih =>
    intro a w hh
    simp  [List.map_cons, wpOpsIn] at hh ⊢
    rcases h i with ⟨h1, h2⟩ | ⟨o, o', h1, h2, h3⟩
    · grind
    · rw [h2] at hh
      rw [h1]
      simp  at hh ⊢
      have hw : Region.wanted o' (yielded l' a.tmps) = Region.wanted o (yielded l a.tmps) := by
        unfold Region.wanted
        rw [h3.guard]
        grind
      rw [hw] at hh
      split
      · rename_i hc
        rw [if_pos hc, h3.wpIn] at hh
        grind [Oper.wpIn_mono]
      · rename_i hc
        rw [if_neg hc, h3.dst] at hh
        have : o'.about P w a.eval = o.about P w a.eval := by
          unfold Oper.about; rw [h3.op, h3.type]
        grind
def renO (q : List Nat) (o : Oper) : Oper := { o with after := o.after.map fun e => ⟨q.getD e.on 0, e.ground⟩, guard := o.guard.map fun g => (q.getD g.1 0, g.2) }
def atO (l : List Oper) (i : Nat) : Oper := l[i]?.getD default
def permL (p q : List Nat) (l : List Oper) : List Oper := p.map fun i => renO q (atO l i)
def permOk (p q : List Nat) (l : List Oper) : Bool :=
  p.length == l.length && q.length == l.length && (List.range l.length).all fun i => decide (p.getD i 0 < l.length) && decide (q.getD i 0 < l.length) && (p.getD (q.getD i 0) 0 == i) && (q.getD (p.getD i 0) 0 == i)
section
variable {P : Program} {n : Nat} {Q : AX → St → Prop}
def OrdR (P : Program) (n : Nat) (l : List Oper) (s : St) (Q : AX → St → Prop) : Prop := ∀ fo m a w, G fo n m s a w → ∀ L, Ordr l.toArray l.length (Array.replicate l.length false) L → wpOpsIn (wr fo.r) 0 P l.toArray (Post fo n m w Q) L a { w with drawn := w.drawn + 1 }
theorem OrdR.region {id} {l} {s} (hm : P.follows .mixedOrders = true) (h : OrdR P n l s Q) : AWP P n (.region id l.toArray true) s Q := by
  intro fo m a w _ g
  refine wpIn_region_draw fun t => ?_
  simp  [Region.schedule]
  refine h fo m a w g _ ?_
  grind [linearise_ordr, Array.replicate, Region.linearise]
theorem OrdR.edge {l} {s} i j (hij : i ≠ j) (h1 : OrdR P n (addE l j i) s Q) (h2 : OrdR P n (addE l i j) s Q) : OrdR P n l s Q := by
  have key : ∀ j i {fo : FO} {a : Act} {w : World} {Q : Exit → Act → World → Prop} {L : List Nat}, wpOpsIn (wr fo.r) 0 P (addE l j i).toArray Q L a w → wpOpsIn (wr fo.r) 0 P l.toArray Q L a w := by
    intro j i fo a w Q L h
    refine wpOps_alike (q := id) (l' := (addE l j i).toArray) (fun k => ?_) L a w (by simp_all)
    simp only [id_eq, List.getElem?_toArray]
    by_cases hk : k = j
    · subst hk
      rw [addE_eq]
      cases l[k]? with
      | none => simp
      | some o => exact .inr ⟨o, _, rfl, rfl, ⟨rfl, rfl, rfl, rfl, by simp⟩⟩
    · rw [addE_ne l j i hk]
      cases l[k]? with
      | none => simp
      | some o => exact .inr ⟨o, _, rfl, rfl, ⟨rfl, rfl, rfl, rfl, by simp⟩⟩
  intro fo m a w g L hL
  rcases Ordr.split hij _ _ _ hL with hL | hL
  · exact key j i  (h1 fo m a w g L (by simp_all [addE_len]))
  · exact key i j  (h2 fo m a w g L (by simp_all [addE_len]))
theorem Ordr.map {l l' : List Oper} {q p : Nat → Nat} (hlen : l'.length = l.length) (hl : ∀ i, i < l.length → q i < l.length ∧ p (q i) = i) (hp : ∀ i, i < l.length → p i < l.length ∧ q (p i) = i)
    (h : ∀ i, i < l.length → ∀ o, l[i]? = some o → ∃ o', l'[q i]? = some o' ∧ o'.after = o.after.map fun e => ⟨q e.on, e.ground⟩) (hin : ∀ (i : Nat) (o : Oper), l[i]? = some o → ∀ e ∈ o.after, e.on < l.length) :
    ∀ f ls ls' L, ls.size = l.length → ls'.size = l.length → (∀ i, i < l.length → ls'.getD (q i) false = ls.getD i false) → Ordr l.toArray f ls L → Ordr l'.toArray f ls' (L.map q) := by
  have rdy : ∀ (ls ls' : Array Bool), ls.size = l.length → ls'.size = l.length → (∀ i, i < l.length → ls'.getD (q i) false = ls.getD i false) → ∀ i, i < l.length → (q i ∈ Region.ready .any l'.toArray ls' ↔ i ∈ Region.ready .any l.toArray ls) := by
    intro ls ls' h1 h2 h3 i hi
    have ho := List.getElem?_eq_getElem hi
    obtain ⟨o', ho', ha⟩ := h i hi _ ho
    have ho2 : l'.toArray[q i]? = some o' := by grind
    have ho3 : l.toArray[i]? = some l[i] := by simp
    have hg : ∀ k b, k < l.length → ls.getD k b = ls.getD k false := fun k b hk => getD_lt (by omega)
    have hg' : ∀ k b, k < l.length → ls'.getD k b = ls'.getD k false := fun k b hk => getD_lt (by omega)
    rw [mem_ready, mem_ready, hg i true hi, hg' _ true (hl i hi).1, h3 i hi, ho2, ho3]
    refine and_congr_right fun _ => ?_
    constructor
    · rintro ⟨o2, ho2, hk⟩
      obtain rfl := Option.some.inj ho2
      refine ⟨_, rfl, fun e he hb => ?_⟩
      have := hk ⟨q e.on, e.ground⟩ (by grind) hb
      grind
    · rintro ⟨o2, ho2, hk⟩
      obtain rfl := Option.some.inj ho2
      refine ⟨_, rfl, fun e he hb => ?_⟩
      rw [ha] at he
      obtain ⟨e0, he0, rfl⟩ := Array.mem_map.1 he
      have := hk e0 he0 hb
      grind
  intro f
  induction f with
  | zero => intro ls ls' L _ _ _ hL; rw [show L = [] from hL]; rfl
  | succ f ih =>
    intro ls ls' L h1 h2 h3 hL
    rcases hL with ⟨h4, rfl⟩ | ⟨k, L', rfl, h5, h6⟩
    · refine .inl ⟨?_, rfl⟩
      rw [List.eq_nil_iff_forall_not_mem] at h4 ⊢
      intro k hk
      have hkl : k < l.length := by
        grind [mem_ready, Array.getElem?_eq_some_iff]
      grind
    · have hkl : k < l.length := by
        grind [mem_ready, Array.getElem?_eq_some_iff]
      refine .inr ⟨q k, L'.map q, rfl, (rdy ls ls' h1 h2 h3 k hkl).2 h5, ih _ _ _ (by grind) (by grind) (fun i hi => ?_) h6⟩
      by_cases hik : k = i
      · simp_all
      · have hq : q k ≠ q i := by
          grind
        simp_all
def inE (l : List Oper) : Bool := l.all fun o => (o.after.toList.all fun e => decide (e.on < l.length)) && (match o.guard with | some g => decide (g.1 < l.length) | none => true)
theorem OrdR.perm {l} {s} p q (hp : permOk p q l = true) (hi : inE l = true) (h : OrdR P n (permL p q l) s Q) : OrdR P n l s Q := by
  unfold permOk at hp
  simp only [Bool.and_eq_true, beq_iff_eq, List.all_eq_true, List.mem_range, decide_eq_true_eq] at hp
  obtain ⟨⟨p1, p2⟩, p3⟩ := hp
  have hlen : (permL p q l).length = l.length := by simp [permL, p1]
  have hat : ∀ i, i < l.length → (permL p q l)[q.getD i 0]? = some (renO q (atO l i)) := by
    grind [permL, List.getElem?_eq_getElem]
  have hao : ∀ (i : Nat) (o : Oper), l[i]? = some o → atO l i = o := by simp_all [atO]
  have q0 : ∀ i, l.length ≤ i → q.getD i 0 = 0 := by
    grind
  let qf : Nat → Nat := fun i => if i < l.length then q.getD i 0 else i
  let pf : Nat → Nat := fun i => if i < l.length then p.getD i 0 else i
  have hqf : ∀ i, i < l.length → qf i = q.getD i 0 := fun i hi => if_pos hi
  have hpf : ∀ i, i < l.length → pf i = p.getD i 0 := fun i hi => if_pos hi
  unfold inE at hi
  simp only [List.all_eq_true, Bool.and_eq_true, decide_eq_true_eq] at hi
  intro fo m a w g L hL
  have hL2 : Ordr (permL p q l).toArray l.length (Array.replicate l.length false) (L.map qf) := by
    refine Ordr.map (p := pf) hlen (fun i hi => ?_) (fun i hi => ?_) (fun i hi' o ho => ?_) (fun i o ho e he => ?_) _ _ _ _ (by simp) (by simp) (fun i hi => ?_) hL
    · grind
    · grind
    · rw [hqf i hi']
      refine ⟨_, hat i hi', ?_⟩
      rw [hao i o ho]
      simp only [renO]
      have hoi := (hi o (List.mem_of_getElem? ho)).1
      simp_all
    · grind
    simp_all
  refine wpOps_alike (q := qf) (l' := (permL p q l).toArray) (fun i => ?_) L a _ (h fo m a w g _ (by grind))
  simp only [List.getElem?_toArray]
  by_cases hi' : i < l.length
  · right
    refine ⟨l[i], renO q l[i], List.getElem?_eq_getElem hi', ?_, ⟨rfl, rfl, rfl, rfl, ?_⟩⟩
    · grind
    · simp only [renO]
      have hoi := (hi l[i] (List.getElem_mem hi')).2
      cases hg : l[i].guard with
      | none => rfl
      | some g =>
        grind
  grind
theorem OrdR.m0 {l} {s} rg us (ok : okM n l rg = true)
    (h : runM P l.toArray (l.zip rg) (s.fr.map fun e => (e.1, 0, e.2)) [] [s.L] us [] (fun fr ks Ls => Q .normal ⟨frAt ks ks.length fr, Ls.getD ks.length []⟩)) : OrdR P n l s Q := by
  intro fo m a w g L hL
  obtain ⟨tr, frE, ks, Ls, h1, h2, -, h4⟩ := runM_tr  (l.zip rg) _ [] [s.L] us [] rfl h
  exact Ordr.run _ _ _ _ _ (any_startM ok h1 h2 rfl h4 g _) hL
theorem AWP.regionE {id} {l} {s} (hm : P.follows .mixedOrders = true) (h : OrdR P n l s (fun x s' => ∀ bs, Q x (s'.opn bs))) : AWP P n (.region id l.toArray true) s Q :=
  AWP.opened (OrdR.region hm h)
theorem AWP.openPre {c} {s} (h : ∀ bs, AWP P n c (s.opn bs) Q) : AWP P n c s Q := fun fo m a w hr g => by
  obtain ⟨bs, g2⟩ := g.opn
  exact h bs fo m a w hr g2
theorem AWP.merge {c c2} {s} s0 (h1 : AWP P n c s (fun x s' => x = .normal ∧ Wk n s' s0)) (h2 : ∀ bs, AWP P n c2 (s0.opn bs) Q) : AWP P n (.seq c c2) s Q :=
  AWP.seq (AWP.mono h1 fun x s' ⟨hx, hw⟩ => by subst hx; exact AWP.weaken hw (AWP.openPre h2))
attribute [simp] addE renO atO permL
end
end Go.Ab

namespace Go.Ab
open Go.Proofs
set_option maxHeartbeats 4000000
set_option maxRecDepth 20000
theorem foldSs_len (l : List GStmt) : (foldSs l).length = l.length := by rw [foldSs_map, List.length_map]
theorem placeN_succ {L : List GStmt} {k : Nat} {s : GStmt} (h : L[k]? = some s) : placeN L (k + 1) = putS (placeN L k) (L.length - k - 1) s := by rw [placeN, h]
theorem partsS_enc (s : GStmt) (a : List GExpr) (b c : List GStmt) : (partsS s a b c).enc = [.v (.int .i64 s.Kind), .v (.int .i64 s.Num), .v (.string s.Name), .sl (a.map GExpr.enc), .sl (b.map GStmt.enc), .sl (c.map GStmt.enc)] := by
  unfold partsS
  rw [GStmt.enc, GStmt.encs_eq, GStmt.encs_eq]
theorem stmt_enc (x : GStmt) : x.enc = [.v (.int .i64 x.Kind), .v (.int .i64 x.Num), .v (.string x.Name), .sl (x.Args.map GExpr.enc), .sl (x.Body.map GStmt.enc), .sl (x.Else.map GStmt.enc)] := by
  cases x
  rw [GStmt.enc, GStmt.encs_eq, GStmt.encs_eq]
  rfl
theorem put_0 {out : List GStmt} {r : Nat} {s : GStmt} (h : ∀ y, s.Args ≠ [y]) : putS out r s = out ++ [s] := by
  unfold putS
  split
  · rename_i y hy; exact absurd hy (h y)
  · rfl
theorem put_1 {out : List GStmt} {r : Nat} {s : GStmt} {y : GExpr} (h : s.Args = [y]) : putS out r s = if y.Kind = 1 ∧ s.Kind = 9 then
      (if out.length + (chS y.Num s).length + r ≤ 256 then out ++ chS y.Num s else out ++ [s])
    else if y.Kind = 1 ∧ s.Kind = 10 ∧ wrapM y.Num = 0 then out else out ++ [s] := by
  unfold putS; rw [h]
section
variable (t : GTables) (lo : Int)
theorem fBlock_of (l : List GStmt) (hl : ∀ s ∈ l, s.wf) (hlen : l.length ≤ 256) (hb : ∀ s ∈ l, boundS t lo s = true)
    (ih : ∀ s ∈ l, Pure Tryz.prog 16 [.d (.sl (s.Body.map GStmt.enc))] (.d (.sl ((foldB s.Body).map GStmt.enc))) ∧ Pure Tryz.prog 16 [.d (.sl (s.Else.map GStmt.enc))] (.d (.sl ((foldB s.Else).map GStmt.enc)))) :
    Pure Tryz.prog 16 [.d (.sl (l.map GStmt.enc))] (.d (.sl ((foldB l).map GStmt.enc))) := by
  have hL := foldSs_len l
  have hB : boundB t lo (foldSs l) = true := by
    rw [boundB_iff, hL, foldSs_map]
    refine ⟨fun x hx => ?_, hlen⟩
    obtain ⟨y, hy, rfl⟩ := List.mem_map.1 hx
    exact foldS_bound t lo _ y (Nat.lt_succ_self _) (hb y hy)
  have hpl := fun k (hk : k ≤ l.length) => place_len (L := foldSs l) (by omega) k (by omega)
  rw [hL] at hpl
  unfold foldB placeB
  rw [hL]
  refine Pure.run Tryz.func16 rfl (by simp [Tryz.f16]) ?_; simp [-cB, Tryz.f16]
  refine AWP.weaken (Wk.own' (t := 3) (h := 5101) (k := 6) (ty := 53) (by rfl) (by simp [keys])) ?_
  refine AWP.loopL [0, 3, 10, 11, 12] l (fun pre => [(12, .d (.v (.int .i64 pre.length)))]) (fun pre => [(5101, .row 53 6 (dd ((placeN (foldSs l) pre.length).map GStmt.enc)))]) (fun _ => True) (by rfl) (by omega) (by simp [placeN]) ?_ ?_
  · rintro pre x post hsp - hlt hge a4
    have hxm : x ∈ l := by rw [hsp]; simp
    obtain ⟨iB, iE⟩ := ih x hxm
    have hxw := hl x hxm
    have hxb := hb x hxm
    have hfx : foldS x = partsS x (foldEs x.Args) (foldB x.Body) (foldB x.Else) := foldS_eq x
    have hfb := foldS_bound t lo _ x (Nat.lt_succ_self _) hxb
    have hsx : (foldSs l)[pre.length]? = some (foldS x) := by rw [foldSs_map, List.getElem?_map, List.getElem?_eq_getElem hlt, hge]; rfl
    have hps := placeN_succ hsx
    rw [hL] at hps
    have hp0 := hpl pre.length (Nat.le_of_lt hlt)
    have hX := fExprs_ok t lo x.Args (GStmt.wl_Args hxw) (GStmt.wf_Args hxw) (decide (x.Kind = 1)) (by
      rw [boundS_eq] at hxb
      simp only [Bool.and_eq_true] at hxb
      exact List.all_eq_true.1 hxb.1.1.2)
    have hpe := partsS_enc x (foldEs x.Args) (foldB x.Body) (foldB x.Else)
    have hbB := ((boundB_iff t lo _).1 (by rw [boundS_eq] at hfb; simp only [Bool.and_eq_true] at hfb; exact hfb.1.2)).2
    have hbE := ((boundB_iff t lo _).1 (by rw [boundS_eq] at hfb; simp only [Bool.and_eq_true] at hfb; exact hfb.2)).2
    have hy1 : ∀ y, foldEs x.Args = [y] → y.Kind = 1 → wrapM y.Num = y.Num := by
      intro y hy hk
      rw [boundS_eq] at hfb
      simp only [Bool.and_eq_true] at hfb
      have h4 := hfb.1.1.2
      rw [hfx] at h4
      have := List.all_eq_true.1 h4 y (by rw [partsS_A, hy]; simp)
      exact wrapM_id ((fold_ar t lo this).2.2 hk)
    rw [hfx] at hps hbB hbE
    simp only [partsS_B, partsS_E] at hbB hbE
    generalize foldEs x.Args = A at *
    generalize foldB x.Body = B at *
    generalize foldB x.Else = C at *
    obtain ⟨O, hO⟩ : ∃ O, placeN (foldSs l) pre.length = O := ⟨_, rfl⟩
    rw [hO] at hps hp0
    have hI := hX.ok
    have hJ := iB.ok
    have hK := iE.ok
    clear hsp ih hpl hB hX iB iE
    simp [-cB, hlt, hge, hO]
    intro bs
    refine AWP.regionM0 [some (0, 0), some (0, 0), some (0, 0), some (0, 0), some (0, 0), some (0, 0), some (0, 0), some (0, 0), some (0, 0), some (0, 0), none, some (1, 1), none, some (2, 2), none] [.d (.sl (A.map GExpr.enc)), .d (.sl (B.map GStmt.enc)), .d (.sl (C.map GStmt.enc))] Tryz.mixed (by kernel_rfl) ?_
    have hxe := stmt_enc x
    have hdd : dd (O.map GStmt.enc) ++ [[.d (.v (.int .i64 x.Kind)), .d (.v (.int .i64 x.Num)), .d (.v (.string x.Name)), .d (.sl (A.map GExpr.enc)), .d (.sl (B.map GStmt.enc)), .d (.sl (C.map GStmt.enc))]] = dd ((O ++ [partsS x A B C]).map GStmt.enc) := by simp [hpe, dd]
    have hol : O.length + 1 ≤ 256 := by omega
    simp [-cB, hI, hJ, hK, hxe]
    by_cases h1 : A.length = 1
    · obtain ⟨y, rfl⟩ := List.length_eq_one_iff.1 h1
      have hq := fKnown_ok y
      have hy := hy1 y rfl
      have hput : putS O (l.length - pre.length - 1) (partsS x [y] B C) = if y.Kind = 1 ∧ x.Kind = 9 then
          (if O.length + (chS y.Num (partsS x [y] B C)).length + (l.length - pre.length - 1) ≤ 256 then O ++ chS y.Num (partsS x [y] B C) else O ++ [partsS x [y] B C])
        else if y.Kind = 1 ∧ x.Kind = 10 ∧ wrapM y.Num = 0 then O else O ++ [partsS x [y] B C] := put_1 rfl
      simp [-cB]
      refine AOps.pureC rfl (hq) rfl rfl (by simp) rfl ?_
      simp [-cB]
      by_cases hif : y.Kind = 1 ∧ x.Kind = 9
      · obtain ⟨hk1, hk9⟩ := hif
        have hw := hy hk1
        rw [if_pos ⟨hk1, hk9⟩] at hput
        by_cases h0 : y.Num = 0
        · have hch : chS y.Num (partsS x [y] B C) = C := by unfold chS; rw [hw, if_neg (by simpa using h0)]; rfl
          rw [hch] at hput
          have hb0 : (y.Num != 0) = false := by simp [h0]
          have e1 : inR .i64 ((O.length : Int) + C.length) := by rw [inR_i64]; omega
          have e2 : inR .i64 ((O.length : Int) + C.length + l.length) := by rw [inR_i64]; omega
          have e3 : inR .i64 ((O.length : Int) + C.length + l.length - pre.length) := by rw [inR_i64]; omega
          have e4 : inR .i64 ((O.length : Int) + C.length + l.length - pre.length - 1) := by rw [inR_i64]; omega
          by_cases hf : O.length + C.length + (l.length - pre.length - 1) ≤ 256
          · have hfi : (O.length : Int) + C.length + l.length - pre.length - 1 ≤ 256 := by omega
            rw [if_pos hf] at hput
            rw [hput] at hps
            simp [-cB, hk1, hk9, h0, hb0, e1, e2, e3, e4, hfi]
            rw [hps, List.map_append]
            exact ⟨by omega, a4, rfl⟩
          · have hfi : ¬ (O.length : Int) + C.length + l.length - pre.length - 1 ≤ 256 := by omega
            rw [if_neg hf] at hput
            rw [hput] at hps
            simp [-cB, hk1, hk9, h0, hb0, e1, e2, e3, e4, hfi]
            refine ⟨by omega, a4, ?_⟩
            rw [hps, ← hdd]
            try simp [hk9]
        · have hch : chS y.Num (partsS x [y] B C) = B := by unfold chS; rw [hw, if_pos h0]; rfl
          rw [hch] at hput
          have hb0 : (y.Num != 0) = true := by simpa using h0
          have e1 : inR .i64 ((O.length : Int) + B.length) := by rw [inR_i64]; omega
          have e2 : inR .i64 ((O.length : Int) + B.length + l.length) := by rw [inR_i64]; omega
          have e3 : inR .i64 ((O.length : Int) + B.length + l.length - pre.length) := by rw [inR_i64]; omega
          have e4 : inR .i64 ((O.length : Int) + B.length + l.length - pre.length - 1) := by rw [inR_i64]; omega
          by_cases hf : O.length + B.length + (l.length - pre.length - 1) ≤ 256
          · have hfi : (O.length : Int) + B.length + l.length - pre.length - 1 ≤ 256 := by omega
            rw [if_pos hf] at hput
            rw [hput] at hps
            simp [-cB, hk1, hk9, h0, hb0, e1, e2, e3, e4, hfi]
            rw [hps, List.map_append]
            exact ⟨by omega, a4, rfl⟩
          · have hfi : ¬ (O.length : Int) + B.length + l.length - pre.length - 1 ≤ 256 := by omega
            rw [if_neg hf] at hput
            rw [hput] at hps
            simp [-cB, hk1, hk9, h0, hb0, e1, e2, e3, e4, hfi]
            refine ⟨by omega, a4, ?_⟩
            rw [hps, ← hdd]
            try simp [hk9]
      · rw [if_neg hif] at hput
        have hn9 : (decide (x.Kind = 9) && decide (y.Kind = 1)) = false := by
          rw [← Bool.decide_and]
          exact decide_eq_false fun h => hif ⟨h.2, h.1⟩
        by_cases hwh : y.Kind = 1 ∧ x.Kind = 10 ∧ wrapM y.Num = 0
        · rw [if_pos hwh] at hput
          rw [hput] at hps
          obtain ⟨hk1, hk10, h0⟩ := hwh
          rw [hy hk1] at h0
          simp [-cB, hn9, hk1, hk10, h0]
          rw [hps]
          exact ⟨a4, rfl⟩
        · rw [if_neg hwh] at hput
          rw [hput] at hps
          have hn10 : (decide (x.Kind = 10) && decide (y.Kind = 1) && decide (y.Num = 0)) = false := by
            rw [← Bool.decide_and, ← Bool.decide_and]
            exact decide_eq_false fun h => hwh ⟨h.1.2, h.1.1, by rw [hy h.1.2]; exact h.2⟩
          simp [-cB, hn9, hn10]
          refine ⟨by omega, a4, ?_⟩
          rw [hps, ← hdd]
          try simp
    · have h1i : ¬ ((A.length : Int) = 1) := by omega
      have hput := put_0 (out := O) (r := l.length - pre.length - 1) (s := partsS x A B C) (fun y hy => h1 (by rw [show A = [y] from hy]; rfl))
      rw [hput] at hps
      simp [-cB, h1i]
      refine ⟨by omega, a4, ?_⟩
      rw [hps, ← hdd]
  · intro _
    simp [-cB]
theorem fBlock_ok' : ∀ (N : Nat) (l : List GStmt), SizeOf.sizeOf l < N → boundB t lo l = true → (∀ s ∈ l, s.wf) → Pure Tryz.prog 16 [.d (.sl (l.map GStmt.enc))] (.d (.sl ((foldB l).map GStmt.enc))) := by
  intro N
  induction N with
  | zero => intro l hN; omega
  | succ N ih =>
    intro l hN hb hl
    obtain ⟨h1, h2⟩ := (boundB_iff t lo l).1 hb
    refine fBlock_of t lo l hl h2 h1 fun s hs => ?_
    have h3 := List.sizeOf_lt_of_mem hs
    have h4 := h1 s hs
    have hw := hl s hs
    rw [boundS_eq] at h4
    simp only [Bool.and_eq_true] at h4
    exact ⟨ih s.Body (by cases s; simp only [GStmt.Body, GStmt.mk.sizeOf_spec] at *; omega) h4.1.2 (GStmt.wf_Body hw), ih s.Else (by cases s; simp only [GStmt.Else, GStmt.mk.sizeOf_spec] at *; omega) h4.2 (GStmt.wf_Else hw)⟩
theorem fBlock_ok {l : List GStmt} (hb : boundB t lo l = true) (hl : ∀ s ∈ l, s.wf) : Pure Tryz.prog 16 [.d (.sl (l.map GStmt.enc))] (.d (.sl ((foldB l).map GStmt.enc))) := fBlock_ok' t lo _ l (Nat.lt_succ_self _) hb hl
end
end Go.Ab

namespace Go.Ab
open Go.Proofs
set_option maxHeartbeats 4000000
set_option maxRecDepth 20000
section
variable (t : GTables) (lo : Int)
theorem rRed_ok (k o n : Int) (s : ByteArray) (l l0 : List GExpr) (said : Bool) (hall : boundM t lo (.mk k o n s l) said = true) (hx : Pure Tryz.prog 30 [.d (.sl (l0.map GExpr.enc))] (.d (.sl (l.map GExpr.enc)))) :
    Pure Tryz.prog 62 [.agg ((GExpr.mk k o n s l0).enc.map .d)] (.agg ((redE (.mk k o n s l)).enc.map .d)) := by
  obtain ⟨a1, a2, -⟩ := fold_ar t lo hall
  have hE : (GExpr.mk k o n s l).enc = [.v (.int .i64 k), .v (.int .i64 o), .v (.int .i64 n), .v (.string s), .sl (l.map GExpr.enc)] := by rw [GExpr.enc, GExpr.encs_eq]
  simp only [GExpr.Kind, GExpr.Args] at a1 a2
  have hyb : ∀ y r, l = y :: r → y.Kind = 1 → wrapM y.Num = y.Num := by
    rintro y r rfl hy
    rw [boundM_eq, Bool.and_eq_true] at hall
    have h2 : boundsM t lo (y :: r) = true := hall.2
    rw [boundsM, Bool.and_eq_true] at h2
    exact wrapM_id ((fold_ar t lo h2.1).2.2 hy)
  refine Pure.runA Tryz.func62 rfl (by simp [Tryz.f62]) ?_
  simp only [Tryz.f62]
  refine AWP.seqK ?_
  simp [-cB]
  intro bs
  refine AWP.seqK ?_
  simp [-cB]
  refine AOps.pureC rfl (hx) rfl rfl (by simp) rfl ?_
  simp [-cB]
  refine AWP.weaken (Wk.freezeB 1 (ds := [.v (.int .i64 k), .v (.int .i64 o), .v (.int .i64 n), .v (.string s), .sl (l.map GExpr.enc)]) rfl) ?_
  refine AWP.ofK ?_
  by_cases h1 : l.length = 1
  · obtain ⟨y, rfl⟩ := List.length_eq_one_iff.1 h1
    have hN := rNumber_ok y
    have hw := hyb y [] rfl
    have h6 : k ≠ 6 := by
      intro h
      obtain ⟨y1, z1, h2⟩ := a2 h
      cases h2
    have hR : redE (.mk k o n s [y]) = if y.Kind = 1 then (if k = 4 then numX (negM y.Num) else if k = 5 then numX (tru (decide (wrapM y.Num = 0))) else .mk k o n s [y]) else .mk k o n s [y] := redE_1 (y := y) rfl
    rw [hR]
    simp [-cB]
    refine AOps.pureG rfl (fun h => hN) rfl (by first | rfl | (simp; done) | (simp; rfl)) (by simp) (by simp) rfl ?_
    simp [-cB]
    by_cases hy : y.Kind = 1
    · by_cases h4 : k = 4
      · simp [-cB, hy, h4]
        refine AOps.pureC rfl ((refNeg_ok y.Num)) rfl rfl (by simp) rfl ?_
        simp [-cB]
        refine AOps.pureC rfl ((rNum_ok _)) rfl rfl (by simp) rfl ?_
        simp [-cB, numX_deep]
      · simp [-cB, hy, h4]
        refine AOps.pureG rfl (fun h => hN) rfl (by first | rfl | (simp; done) | (simp; rfl)) (by simp) (by simp) rfl ?_
        by_cases h5 : k = 5
        · simp [-cB, hy, h5]
          refine AOps.pureC rfl ((refWrap_ok y.Num)) rfl rfl (by simp) rfl ?_
          simp [-cB]
          refine AOps.pureC rfl ((rTruth_ok _)) rfl rfl (by simp) rfl ?_
          simp [-cB]
          refine AOps.pureC rfl ((rNum_ok _)) rfl rfl (by simp) rfl ?_
          simp [-cB, numX_deep]
        · simp [-cB, hy, h4, h5, h6]
          refine AOps.pureG (g := false) (f := 31) (args := [.agg (y.enc.map .d)]) (x := boolD false) rfl (fun h => by cases h) rfl (by first | rfl | (simp; done) | (simp; rfl)) (by simp) (by simp) rfl ?_
          simp [-cB, hE]
    · simp [-cB, hy]
      refine AOps.pureG rfl (fun h => hN) rfl (by first | rfl | (simp; done) | (simp; rfl)) (by simp) (by simp) rfl ?_
      simp [-cB, hy, h6]
      refine AOps.pureG (g := false) (f := 31) (args := [.agg (y.enc.map .d)]) (x := boolD false) rfl (fun h => by cases h) rfl (by first | rfl | (simp; done) | (simp; rfl)) (by simp) (by simp) rfl ?_
      simp [-cB, hE]
  · have h4 : k ≠ 4 := fun h => h1 (by obtain ⟨y, hy⟩ := a1 (.inl h); rw [hy]; rfl)
    have h5 : k ≠ 5 := fun h => h1 (by obtain ⟨y, hy⟩ := a1 (.inr h); rw [hy]; rfl)
    rcases l with _ | ⟨y, l⟩
    · have h6 : k ≠ 6 := by
        intro h
        obtain ⟨y1, z1, h2⟩ := a2 h
        cases h2
      rw [show redE (.mk k o n s []) = .mk k o n s [] from redE_n h4 h5 h6, hE]
      simp [-cB]
      refine AOps.pureG (g := false) (f := 31) (args := [.agg (GExpr.zero.enc.map .d)]) (x := boolD false) rfl (fun h => by cases h) rfl (by first | rfl | (simp; done) | (simp; rfl)) (by simp) (by simp) rfl ?_
      simp [-cB]
      refine AOps.pureG (g := false) (f := 31) (args := [.agg (GExpr.zero.enc.map .d)]) (x := boolD false) rfl (fun h => by cases h) rfl (by first | rfl | (simp; done) | (simp; rfl)) (by simp) (by simp) rfl ?_
      simp [-cB, h6]
      refine AOps.pureG (g := false) (f := 31) (args := [.agg (GExpr.zero.enc.map .d)]) (x := boolD false) rfl (fun h => by cases h) rfl (by first | rfl | (simp; done) | (simp; rfl)) (by simp) (by simp) rfl ?_
      simp [-cB]
    · rcases l with _ | ⟨z, r⟩
      · exact absurd rfl h1
      have hN := rNumber_ok y
      have hM := rNumber_ok z
      have hli : ¬ ((r.length : Int) + 1 + 1 = 1) := by omega
      by_cases h6 : k = 6
      · subst h6
        obtain ⟨y1, z1, h2⟩ := a2 rfl
        obtain rfl : r = [] := by simp only [List.cons.injEq] at h2; exact h2.2.2
        have hB := fun h => rBin_ok o y.Num z.Num h
        have hw := hyb y [z] rfl
        have hR : redE (.mk 6 o n s [y, z]) = if y.Kind = 1 then (if z.Kind = 1 ∧ (binR GWorld.zero o y.Num z.Num).2 = 0 then numX (binR GWorld.zero o y.Num z.Num).1 else if o = 2 ∧ wrapM y.Num = 0 then numX 0 else if o = 1 ∧ wrapM y.Num ≠ 0 then numX 1 else .mk 6 o n s [y, z]) else .mk 6 o n s [y, z] := by
          rw [redE_2 (y := y) (z := z) rfl]
          by_cases hy : y.Kind = 1
          · rw [if_pos hy, if_pos ⟨rfl, hy⟩]; rfl
          · rw [if_neg hy, if_neg (fun h => hy h.2)]
        rw [hR]
        simp [-cB]
        refine AOps.pureG (g := false) (f := 31) (args := [.agg (y.enc.map .d)]) (x := boolD false) rfl (fun h => by cases h) rfl (by first | rfl | (simp; done) | (simp; rfl)) (by simp) (by simp) rfl ?_
        simp [-cB]
        refine AOps.pureG (g := false) (f := 31) (args := [.agg (y.enc.map .d)]) (x := boolD false) rfl (fun h => by cases h) rfl (by first | rfl | (simp; done) | (simp; rfl)) (by simp) (by simp) rfl ?_
        simp [-cB]
        refine AOps.pureG rfl (fun h => hN) rfl (by first | rfl | (simp; done) | (simp; rfl)) (by simp) (by simp) rfl ?_
        by_cases hy : y.Kind = 1
        · have hw := hw hy
          have hB := hB hw
          rw [if_pos hy, hw]
          simp [-cB, hy]
          refine AOps.pureC rfl ((refWrap_ok y.Num)) rfl rfl (by simp) rfl ?_
          rw [hw]
          by_cases hA : o = 2 ∧ y.Num = 0
          · have hv : (if z.Kind = 1 ∧ (binR GWorld.zero o y.Num z.Num).2 = 0 then numX (binR GWorld.zero o y.Num z.Num).1 else if o = 2 ∧ y.Num = 0 then numX 0 else if o = 1 ∧ y.Num ≠ 0 then numX 1 else .mk 6 o n s [y, z]) = numX 0 := by
              have hb2 : binR GWorld.zero o y.Num z.Num = (0, 0) := by
                unfold binR
                rw [if_neg (by omega), if_pos hA.1, hw]
                simp [hA.2, tru]
              rw [hb2, if_pos hA]
              split <;> rfl
            rw [hv]
            simp [-cB, hA.1, hA.2]
            refine AOps.pureC rfl ((rNum_ok 0)) rfl rfl (by simp) rfl ?_
            simp [-cB, numX_deep]
          · have eA : (decide (o = 2) && decide (y.Num = 0)) = false := by rw [← Bool.decide_and]; exact decide_eq_false hA
            by_cases hO : o = 1 ∧ y.Num ≠ 0
            · have hv : (if z.Kind = 1 ∧ (binR GWorld.zero o y.Num z.Num).2 = 0 then numX (binR GWorld.zero o y.Num z.Num).1 else if o = 2 ∧ y.Num = 0 then numX 0 else if o = 1 ∧ y.Num ≠ 0 then numX 1 else .mk 6 o n s [y, z]) = numX 1 := by
                have hb2 : binR GWorld.zero o y.Num z.Num = (1, 0) := by
                  unfold binR
                  rw [if_pos hO.1, hw]
                  simp [hO.2, tru]
                rw [hb2, if_neg hA, if_pos hO]
                split <;> rfl
              rw [hv]
              have hb : (y.Num != 0) = true := by simpa using hO.2
              simp [-cB, eA, hO.1, hb]
              refine AOps.pureC rfl ((rNum_ok 1)) rfl rfl (by simp) rfl ?_
              simp [-cB, numX_deep]
            · have eO : (decide (o = 1) && (y.Num != 0)) = false := by
                by_cases h1 : o = 1
                · have h0 : y.Num = 0 := by
                    by_cases h0 : y.Num = 0
                    · exact h0
                    · exact absurd ⟨h1, h0⟩ hO
                  simp [h0]
                · simp [h1]
              rw [if_neg hA, if_neg hO]
              simp [-cB, eA, eO]
              refine AOps.pureC rfl (hM) rfl rfl (by simp) rfl ?_
              by_cases hz : z.Kind = 1
              · simp [-cB, hz]
                obtain ⟨q, hq⟩ : ∃ q, binR GWorld.zero o y.Num z.Num = q := ⟨_, rfl⟩
                rw [hq] at hB ⊢
                by_cases hq0 : q.2 = 0
                · rw [if_pos hq0]
                  rw [decide_eq_true hq0] at hB
                  have hBk := hB.ok
                  refine AWP.regionD [.tup [intD q.1, boolD true]] Tryz.mixed (by kernel_rfl) (by rfl) ?_
                  simp [-cB]
                  refine ⟨hBk _, ?_⟩
                  refine AOps.pureC rfl ((rNum_ok _)) rfl rfl (by simp) rfl ?_
                  simp [-cB, numX_deep]
                · rw [if_neg hq0]
                  rw [decide_eq_false hq0] at hB
                  have hBk := hB.ok
                  refine AWP.regionD [.tup [intD q.1, boolD false]] Tryz.mixed (by kernel_rfl) (by rfl) ?_
                  simp [-cB, hE]
                  exact hBk _
              · rw [if_neg (fun h => hz h.1)]
                simp [-cB, hz, hE]
        · rw [if_neg hy, hE]
          simp [-cB, hy]
      · rw [show redE (.mk k o n s (y :: z :: r)) = .mk k o n s (y :: z :: r) from redE_n h4 h5 h6, hE]
        simp [-cB, hli]
        refine AOps.pureG (g := false) (f := 31) (args := [.agg (y.enc.map .d)]) (x := boolD false) rfl (fun h => by cases h) rfl (by first | rfl | (simp; done) | (simp; rfl)) (by simp) (by simp) rfl ?_
        simp [-cB, hli]
        refine AOps.pureG (g := false) (f := 31) (args := [.agg (y.enc.map .d)]) (x := boolD false) rfl (fun h => by cases h) rfl (by first | rfl | (simp; done) | (simp; rfl)) (by simp) (by simp) rfl ?_
        simp [-cB, h6]
        refine AOps.pureG (g := false) (f := 31) (args := [.agg (y.enc.map .d)]) (x := boolD false) rfl (fun h => by cases h) rfl (by first | rfl | (simp; done) | (simp; rfl)) (by simp) (by simp) rfl ?_
        simp [-cB]
theorem rAll_of (l : List GExpr) (hlen : l.length * 64 ≤ 140737488351232) (ih : ∀ x ∈ l, Pure Tryz.prog 62 [.agg (x.enc.map .d)] (.agg ((foldE x).enc.map .d))) : Pure Tryz.prog 30 [.d (.sl (l.map GExpr.enc))] (.d (.sl ((foldEs l).map GExpr.enc))) := by
  refine Pure.run Tryz.func30 rfl (by simp [Tryz.f30]) ?_; simp [-cB, Tryz.f30]
  refine AWP.weaken (Wk.own' (t := 3) (h := 5101) (k := 5) (ty := 75) (by rfl) (by simp [keys])) ?_
  refine AWP.loopL [0, 3, 4] l (fun pre => [(4, .d (.v (.int .i64 pre.length)))]) (fun pre => [(5101, .row 75 5 (dd ((foldEs pre).map GExpr.enc)))]) (fun _ => True) (by rfl) (by omega) (by simp [foldEs]) ?_ ?_
  · rintro pre x post hsp - hlt hge a4
    have hx := ih x (by rw [hsp]; simp)
    have hfl : (foldEs pre).length = pre.length := by rw [foldEs_map, List.length_map]
    have hfs : foldEs (pre ++ [x]) = foldEs pre ++ [foldE x] := by simp [foldEs_map]
    clear hsp ih
    simp [-cB, hlt, hge]
    refine AOps.pureC rfl (hx) rfl rfl (by simp) rfl ?_
    simp [-cB, a4, hfs, hfl]
    omega
  · intro _
    simp [-cB]
theorem rExpr_ok' : ∀ (N : Nat) (e : GExpr), SizeOf.sizeOf e < N → ∀ said, boundM t lo e said = true → e.wf → Pure Tryz.prog 62 [.agg (e.enc.map .d)] (.agg ((foldE e).enc.map .d)) := by
  intro N
  induction N with
  | zero => intro e hN; omega
  | succ N ih =>
    intro e hN said h hw
    have hb := bound_args t lo h
    have hx := rAll_of e.Args (GExpr.wl_Args hw) fun x hx => by
      rw [boundM_eq, Bool.and_eq_true] at h
      have h2 := h.2
      rw [boundsM_all, List.all_eq_true] at h2
      have h3 := List.sizeOf_lt_of_mem hx
      exact ih x (by cases e; simp only [GExpr.Args, GExpr.mk.sizeOf_spec] at *; omega) false (h2 x hx) (GExpr.wf_Args hw x hx)
    rw [foldE_eq]
    obtain ⟨k, o, n, s, l0⟩ := e
    exact rRed_ok t lo k o n s (foldEs l0) l0 said hb hx
theorem rAll_ok (l : List GExpr) (hlen : l.length * 64 ≤ 140737488351232) (hw : ∀ x ∈ l, x.wf) (sd : Bool) (hb : ∀ x ∈ l, boundM t lo x sd = true) : Pure Tryz.prog 30 [.d (.sl (l.map GExpr.enc))] (.d (.sl ((foldEs l).map GExpr.enc))) :=
  rAll_of l hlen fun x hx => rExpr_ok' t lo _ x (Nat.lt_succ_self _) sd (hb x hx) (hw x hx)
end
end Go.Ab

namespace Go.Ab
open Go.Proofs
set_option maxHeartbeats 4000000
set_option maxRecDepth 20000
section
variable (t : GTables) (lo : Int)
theorem rBlock_of (l : List GStmt) (hl : ∀ s ∈ l, s.wf) (hlen : l.length ≤ 256) (hb : ∀ s ∈ l, boundS t lo s = true)
    (ih : ∀ s ∈ l, Pure Tryz.prog 17 [.d (.sl (s.Body.map GStmt.enc))] (.d (.sl ((foldB s.Body).map GStmt.enc))) ∧ Pure Tryz.prog 17 [.d (.sl (s.Else.map GStmt.enc))] (.d (.sl ((foldB s.Else).map GStmt.enc)))) :
    Pure Tryz.prog 17 [.d (.sl (l.map GStmt.enc))] (.d (.sl ((foldB l).map GStmt.enc))) := by
  have hL := foldSs_len l
  have hB : boundB t lo (foldSs l) = true := by
    rw [boundB_iff, hL, foldSs_map]
    refine ⟨fun x hx => ?_, hlen⟩
    obtain ⟨y, hy, rfl⟩ := List.mem_map.1 hx
    exact foldS_bound t lo _ y (Nat.lt_succ_self _) (hb y hy)
  have hpl := fun k (hk : k ≤ l.length) => place_len (L := foldSs l) (by omega) k (by omega)
  rw [hL] at hpl
  unfold foldB placeB
  rw [hL]
  refine Pure.run Tryz.func17 rfl (by simp [Tryz.f17]) ?_; simp [-cB, Tryz.f17]
  refine AWP.weaken (Wk.own' (t := 3) (h := 5101) (k := 6) (ty := 53) (by rfl) (by simp [keys])) ?_
  refine AWP.loopL [0, 3, 4] l (fun pre => [(4, .d (.v (.int .i64 pre.length)))]) (fun pre => [(5101, .row 53 6 (dd ((placeN (foldSs l) pre.length).map GStmt.enc)))]) (fun _ => True) (by rfl) (by omega) (by simp [placeN]) ?_ ?_
  · rintro pre x post hsp - hlt hge a4
    have hxm : x ∈ l := by rw [hsp]; simp
    obtain ⟨iB, iE⟩ := ih x hxm
    have hxw := hl x hxm
    have hxb := hb x hxm
    have hfx : foldS x = partsS x (foldEs x.Args) (foldB x.Body) (foldB x.Else) := foldS_eq x
    have hfb := foldS_bound t lo _ x (Nat.lt_succ_self _) hxb
    have hsx : (foldSs l)[pre.length]? = some (foldS x) := by rw [foldSs_map, List.getElem?_map, List.getElem?_eq_getElem hlt, hge]; rfl
    have hps := placeN_succ hsx
    rw [hL] at hps
    have hp0 := hpl pre.length (Nat.le_of_lt hlt)
    have hX := rAll_ok t lo x.Args (GStmt.wl_Args hxw) (GStmt.wf_Args hxw) (decide (x.Kind = 1)) (by
      rw [boundS_eq] at hxb
      simp only [Bool.and_eq_true] at hxb
      exact List.all_eq_true.1 hxb.1.1.2)
    have hpe := partsS_enc x (foldEs x.Args) (foldB x.Body) (foldB x.Else)
    have hbB := ((boundB_iff t lo _).1 (by rw [boundS_eq] at hfb; simp only [Bool.and_eq_true] at hfb; exact hfb.1.2)).2
    have hbE := ((boundB_iff t lo _).1 (by rw [boundS_eq] at hfb; simp only [Bool.and_eq_true] at hfb; exact hfb.2)).2
    have hy1 : ∀ y, foldEs x.Args = [y] → y.Kind = 1 → wrapM y.Num = y.Num := by
      intro y hy hk
      rw [boundS_eq] at hfb
      simp only [Bool.and_eq_true] at hfb
      have h4 := hfb.1.1.2
      rw [hfx] at h4
      have := List.all_eq_true.1 h4 y (by rw [partsS_A, hy]; simp)
      exact wrapM_id ((fold_ar t lo this).2.2 hk)
    rw [hfx] at hps hbB hbE
    simp only [partsS_B, partsS_E] at hbB hbE
    generalize foldEs x.Args = A at *
    generalize foldB x.Body = B at *
    generalize foldB x.Else = C at *
    obtain ⟨O, hO⟩ : ∃ O, placeN (foldSs l) pre.length = O := ⟨_, rfl⟩
    rw [hO] at hps hp0
    clear hsp ih hpl hB
    have hxe := stmt_enc x
    have hdd : dd (O.map GStmt.enc) ++ [[.d (.v (.int .i64 x.Kind)), .d (.v (.int .i64 x.Num)), .d (.v (.string x.Name)), .d (.sl (A.map GExpr.enc)), .d (.sl (B.map GStmt.enc)), .d (.sl (C.map GStmt.enc))]] = dd ((O ++ [partsS x A B C]).map GStmt.enc) := by simp [hpe, dd]
    have hol : O.length + 1 ≤ 256 := by omega
    simp [-cB, hlt, hge, hO]
    intro bs
    refine AOps.pureC rfl (hX) rfl rfl (by simp) rfl ?_
    simp [-cB, hxe]
    refine AOps.pureC rfl (iB) rfl rfl (by simp) rfl ?_
    simp [-cB, hxe]
    refine AOps.pureC rfl (iE) rfl rfl (by simp) rfl ?_
    by_cases h1 : A.length = 1
    · obtain ⟨y, rfl⟩ := List.length_eq_one_iff.1 h1
      have hN := rNumber_ok y
      have hW := refWrap_ok y.Num
      have hy := hy1 y rfl
      have hput : putS O (l.length - pre.length - 1) (partsS x [y] B C) = if y.Kind = 1 ∧ x.Kind = 9 then
          (if O.length + (chS y.Num (partsS x [y] B C)).length + (l.length - pre.length - 1) ≤ 256 then O ++ chS y.Num (partsS x [y] B C) else O ++ [partsS x [y] B C])
        else if y.Kind = 1 ∧ x.Kind = 10 ∧ wrapM y.Num = 0 then O else O ++ [partsS x [y] B C] := put_1 rfl
      simp [-cB, hxe]
      refine AOps.pureG rfl (fun h => hN) rfl (by first | rfl | (simp; done) | (simp; rfl)) (by simp) (by simp) rfl ?_
      by_cases hk1 : y.Kind = 1
      · have hw := hy hk1
        rw [hw] at hW hput
        by_cases hk10 : x.Kind = 10
        · rw [if_neg (by omega)] at hput
          simp [-cB, hxe, hk1, hk10]
          refine AOps.pureG rfl (fun h => hW) rfl (by first | rfl | (simp; done) | (simp; rfl)) (by simp) (by simp) rfl ?_
          by_cases h0 : y.Num = 0
          · rw [if_pos ⟨hk1, hk10, h0⟩] at hput
            rw [hput] at hps
            simp [-cB, h0]
            rw [hps]
            exact ⟨a4, rfl⟩
          · rw [if_neg (fun h => h0 h.2.2)] at hput
            rw [hput] at hps
            simp [-cB, h0, hk10]
            refine ⟨by omega, a4, ?_⟩
            rw [hps, ← hdd]
            try simp [hk10]
        · by_cases hk9 : x.Kind = 9
          · rw [if_pos ⟨hk1, hk9⟩] at hput
            simp [-cB, hxe, hk1, hk9]
            refine AOps.pureG rfl (g := false) (x := intD 0) (fun h => by cases h) rfl (by first | rfl | (simp; done) | (simp; rfl)) (by simp) (by simp) rfl ?_
            simp [-cB, hxe, hk9]
            refine AOps.pureC rfl (hW) rfl rfl (by simp) rfl ?_
            by_cases h0 : y.Num = 0
            · have hch : chS y.Num (partsS x [y] B C) = C := by unfold chS; rw [hw, if_neg (by simpa using h0)]; rfl
              rw [hch] at hput
              have hb0 : (y.Num != 0) = false := by simp [h0]
              have e1 : inR .i64 ((O.length : Int) + C.length) := by rw [inR_i64]; omega
              have e2 : inR .i64 ((O.length : Int) + C.length + l.length) := by rw [inR_i64]; omega
              have e3 : inR .i64 ((O.length : Int) + C.length + l.length - pre.length) := by rw [inR_i64]; omega
              have e4 : inR .i64 ((O.length : Int) + C.length + l.length - pre.length - 1) := by rw [inR_i64]; omega
              by_cases hf : O.length + C.length + (l.length - pre.length - 1) ≤ 256
              · have hfi : ¬ (256 : Int) < (O.length : Int) + C.length + l.length - pre.length - 1 := by omega
                rw [if_pos hf] at hput
                rw [hput] at hps
                simp [-cB, h0, hb0, e1, e2, e3, e4, hfi]
                rw [hps, List.map_append]
                exact ⟨by omega, a4, rfl⟩
              · have hfi : (256 : Int) < (O.length : Int) + C.length + l.length - pre.length - 1 := by omega
                rw [if_neg hf] at hput
                rw [hput] at hps
                simp [-cB, h0, hb0, e1, e2, e3, e4, hfi]
                refine ⟨by omega, a4, ?_⟩
                rw [hps, ← hdd]
                try simp [hk9]
            · have hch : chS y.Num (partsS x [y] B C) = B := by unfold chS; rw [hw, if_pos h0]; rfl
              rw [hch] at hput
              have hb0 : (y.Num != 0) = true := by simpa using h0
              have e1 : inR .i64 ((O.length : Int) + B.length) := by rw [inR_i64]; omega
              have e2 : inR .i64 ((O.length : Int) + B.length + l.length) := by rw [inR_i64]; omega
              have e3 : inR .i64 ((O.length : Int) + B.length + l.length - pre.length) := by rw [inR_i64]; omega
              have e4 : inR .i64 ((O.length : Int) + B.length + l.length - pre.length - 1) := by rw [inR_i64]; omega
              by_cases hf : O.length + B.length + (l.length - pre.length - 1) ≤ 256
              · have hfi : ¬ (256 : Int) < (O.length : Int) + B.length + l.length - pre.length - 1 := by omega
                rw [if_pos hf] at hput
                rw [hput] at hps
                simp [-cB, h0, hb0, e1, e2, e3, e4, hfi]
                rw [hps, List.map_append]
                exact ⟨by omega, a4, rfl⟩
              · have hfi : (256 : Int) < (O.length : Int) + B.length + l.length - pre.length - 1 := by omega
                rw [if_neg hf] at hput
                rw [hput] at hps
                simp [-cB, h0, hb0, e1, e2, e3, e4, hfi]
                refine ⟨by omega, a4, ?_⟩
                rw [hps, ← hdd]
                try simp [hk9]
          · rw [if_neg (fun h => hk9 h.2), if_neg (fun h => hk10 h.2.1)] at hput
            rw [hput] at hps
            simp [-cB, hxe, hk1, hk10]
            refine AOps.pureG rfl (g := false) (x := intD 0) (fun h => by cases h) rfl (by first | rfl | (simp; done) | (simp; rfl)) (by simp) (by simp) rfl ?_
            simp [-cB, hxe, hk9]
            refine ⟨by omega, a4, ?_⟩
            rw [hps, ← hdd]
            try simp
      · rw [if_neg (fun h => hk1 h.1), if_neg (fun h => hk1 h.1)] at hput
        rw [hput] at hps
        simp [-cB, hxe, hk1]
        refine AOps.pureG rfl (g := false) (x := intD 0) (fun h => by cases h) rfl (by first | rfl | (simp; done) | (simp; rfl)) (by simp) (by simp) rfl ?_
        simp [-cB, hxe]
        refine ⟨by omega, a4, ?_⟩
        rw [hps, ← hdd]
        try simp
    · have h1i : ¬ ((A.length : Int) = 1) := by omega
      have hput := put_0 (out := O) (r := l.length - pre.length - 1) (s := partsS x A B C) (fun y hy => h1 (by rw [show A = [y] from hy]; rfl))
      rw [hput] at hps
      simp [-cB, hxe, h1i]
      refine AOps.pureG rfl (g := false) (x := boolD false) (fun h => by cases h) rfl (by first | rfl | (simp; done) | (simp; rfl)) (by simp) (by simp) rfl ?_
      simp [-cB, hxe]
      refine AOps.pureG rfl (g := false) (x := intD 0) (fun h => by cases h) rfl (by first | rfl | (simp; done) | (simp; rfl)) (by simp) (by simp) rfl ?_
      simp [-cB, hxe]
      refine ⟨by omega, a4, ?_⟩
      rw [hps, ← hdd]
  · intro _
    simp [-cB]
theorem rBlock_ok' : ∀ (N : Nat) (l : List GStmt), SizeOf.sizeOf l < N → boundB t lo l = true → (∀ s ∈ l, s.wf) → Pure Tryz.prog 17 [.d (.sl (l.map GStmt.enc))] (.d (.sl ((foldB l).map GStmt.enc))) := by
  intro N
  induction N with
  | zero => intro l hN; omega
  | succ N ih =>
    intro l hN hb hl
    obtain ⟨h1, h2⟩ := (boundB_iff t lo l).1 hb
    refine rBlock_of t lo l hl h2 h1 fun s hs => ?_
    have h3 := List.sizeOf_lt_of_mem hs
    have h4 := h1 s hs
    have hw := hl s hs
    rw [boundS_eq] at h4
    simp only [Bool.and_eq_true] at h4
    exact ⟨ih s.Body (by cases s; simp only [GStmt.Body, GStmt.mk.sizeOf_spec] at *; omega) h4.1.2 (GStmt.wf_Body hw), ih s.Else (by cases s; simp only [GStmt.Else, GStmt.mk.sizeOf_spec] at *; omega) h4.2 (GStmt.wf_Else hw)⟩
theorem rBlock_ok {l : List GStmt} (hb : boundB t lo l = true) (hl : ∀ s ∈ l, s.wf) : Pure Tryz.prog 17 [.d (.sl (l.map GStmt.enc))] (.d (.sl ((foldB l).map GStmt.enc))) := rBlock_ok' t lo _ l (Nat.lt_succ_self _) hb hl
end
end Go.Ab

namespace Go.Ab
open Go.Proofs
set_option maxHeartbeats 4000000
set_option maxRecDepth 20000
theorem foldK_enc (b : GBook) : (foldK b).enc = b.Tables.enc ++ [.sl (encSl (List.map GStmt.enc) (b.Routines.map foldB))] := rfl
theorem onsF (ks : List Nat) : ∀ (a b : List V), V.ons ks (a ++ b) = (V.ons ks a && V.ons ks b)
  | [], b => by simp [V.ons]
  | x :: a, b => by simp [V.ons, onsF ks a b, Bool.and_assoc]
theorem fBook_ok (b : GBook) (hb : b.wf) (hr : rightBookB b = true) : Pure Tryz.prog 7 [.agg (b.enc.map .d)] (.agg ((foldK b).enc.map .d)) := by
  have hlen := GBook.wl_Routines hb
  have hwr := hb.2.2
  refine Pure.run Tryz.func7 rfl (by simp [Tryz.f7]) ?_; simp [-cB, Tryz.f7]
  intro bs bs2
  refine AWP.weaken (Wk.ownBox 3 15 5301 (e := 36) (k := 1) rfl rfl (by simp [keys])) ?_
  simp only [Heap.upd, List.map_cons, List.map_nil, reduceIte, Nat.reduceEqDiff]
  refine AWP.loopL [2, 3, 10, 11, 12] b.Routines (fun pre => [(12, .d (.v (.int .i64 pre.length)))]) (fun pre => [(5301, .row 36 1 (dd (encSl (List.map GStmt.enc) (pre.map foldB))))]) (fun _ => True) (by rfl) (by omega) (by simp [onsF]) ?_ ?_
  · rintro pre x post hsp - hlt hge a4
    have hx : b.Routines[pre.length] = x := hge
    have hq := fBlock_ok b.Tables _ (right_bound hr hlt) (hwr _ (List.getElem_mem hlt)).2
    rw [hx] at hq
    have hk := hq.ok
    clear hsp
    have k1 : V.kills 5301 (List.map V.d b.Tables.enc ++ [V.rv 5301]) = List.map V.d b.Tables.enc ++ [V.any] := rfl
    have k3 : (List.map V.d b.Tables.enc ++ [V.any]).take 15 = List.map V.d b.Tables.enc := rfl
    have k4 : (List.map V.d b.Tables.enc ++ [V.any]).drop 16 = [] := rfl
    simp [-cB, hlt, hge]
    refine AWP.regionM0 [some (0, 1), some (0, 1), some (0, 0), some (0, 0), none, none, some (2, 2), none] [.d (.sl ((foldB x).map GStmt.enc))] Tryz.mixed (by kernel_rfl) ?_
    simp [-cB, hk, k1, k3, k4]
    exact ⟨by omega, a4, by simp [onsF]⟩
  · intro _
    simp [-cB]
    simp [foldK_enc, GTables.enc]
end Go.Ab

namespace Go.Ab
open Go.Proofs
set_option maxHeartbeats 4000000
set_option maxRecDepth 20000
theorem rBook_ok (b : GBook) (hb : b.wf) (hr : rightBookB b = true) : Pure Tryz.prog 8 [.agg (b.enc.map .d)] (.agg ((foldK b).enc.map .d)) := by
  have hlen := GBook.wl_Routines hb
  have hwr := hb.2.2
  refine Pure.run Tryz.func8 rfl (by simp [Tryz.f8]) ?_; simp [-cB, Tryz.f8]
  intro bs
  refine AWP.weaken (Wk.own' (t := 3) (h := 5101) (k := 1) (ty := 36) (by rfl) (by simp [keys])) ?_
  refine AWP.loopL [1, 2, 3, 4] b.Routines (fun pre => [(4, .d (.v (.int .i64 pre.length)))]) (fun pre => [(5101, .row 36 1 (dd (encSl (List.map GStmt.enc) (pre.map foldB))))]) (fun _ => True) (by rfl) (by omega) (by simp) ?_ ?_
  · rintro pre x post hsp - hlt hge a4
    have hx : b.Routines[pre.length] = x := hge
    have hq := rBlock_ok b.Tables _ (right_bound hr hlt) (hwr _ (List.getElem_mem hlt)).2
    rw [hx] at hq
    clear hsp
    simp [-cB, hlt, hge]
    refine AOps.pureC rfl (hq) rfl rfl (by simp) rfl ?_
    simp [-cB]
    exact ⟨by omega, a4⟩
  · intro _
    simp [-cB]
    simp [foldK_enc, GTables.enc]
theorem same_all : ∀ (N : Nat), (∀ e : GExpr, SizeOf.sizeOf e < N → e.wf → Pure Tryz.prog 33 [.agg (e.enc.map .d), .agg (e.enc.map .d)] (boolD true)) ∧ (∀ l : List GExpr, SizeOf.sizeOf l < N → l.length ≤ 10000000000000 → (∀ x ∈ l, x.wf) → Pure Tryz.prog 18 [.d (.sl (l.map GExpr.enc)), .d (.sl (l.map GExpr.enc))] (boolD true))
  | 0 => ⟨fun e h => by omega, fun l h => by omega⟩
  | N + 1 => by
    obtain ⟨ih1, ih2⟩ := same_all N
    refine ⟨fun e hN hw => ?_, fun l hN hlen hw => ?_⟩
    · have hA := ih2 e.Args (by cases e; simp only [GExpr.Args, GExpr.mk.sizeOf_spec] at *; omega) (by have := GExpr.wl_Args hw; omega) (GExpr.wf_Args hw)
      refine Pure.run Tryz.func33 rfl (by simp [Tryz.f33]) ?_; simp [-cB, Tryz.f33]
      intro bs
      refine AOps.pureC rfl (hA) rfl rfl (by simp) rfl ?_
      simp [-cB]
    · refine Pure.run Tryz.func18 rfl (by simp [Tryz.f18]) ?_; simp [-cB, Tryz.f18]
      refine AWP.loopL [0, 1, 5] l (fun pre => [(5, .d (.v (.int .i64 pre.length)))]) (fun _ => []) (fun _ => True) (by rfl) (by omega) (by simp) ?_ ?_
      · rintro pre x post hsp - hlt hge a4
        have hx : x ∈ l := by rw [hsp]; simp
        have h3 := List.sizeOf_lt_of_mem hx
        have hq := (ih1 x (by omega) (hw x hx)).ok
        clear hsp ih1 ih2
        simp [-cB, hlt, hge]
        refine AWP.regionD [boolD true] Tryz.mixed (by kernel_rfl) (by rfl) ?_
        simp [-cB, hlt, hge, hq, a4]
      · intro _
        simp [-cB]
theorem sameB_self : ∀ (N : Nat) (l : List GStmt), SizeOf.sizeOf l < N → l.length * 104 ≤ 140737488351232 → (∀ x ∈ l, x.wf) → Pure Tryz.prog 9 [.d (.sl (l.map GStmt.enc)), .d (.sl (l.map GStmt.enc))] (boolD true) := by
  intro N
  induction N with
  | zero => intro l h; omega
  | succ N ih =>
    intro l hN hlen hw
    refine Pure.run Tryz.func9 rfl (by simp [Tryz.f9]) ?_; simp [-cB, Tryz.f9]
    refine AWP.loopL [0, 1, 5] l (fun pre => [(5, .d (.v (.int .i64 pre.length)))]) (fun _ => []) (fun _ => True) (by rfl) (by omega) (by simp) ?_ ?_
    · rintro pre x post hsp - hlt hge a4
      have hx : x ∈ l := by rw [hsp]; simp
      have h3 := List.sizeOf_lt_of_mem hx
      have hxw := hw x hx
      have hA := (same_all (SizeOf.sizeOf x.Args + 1)).2 x.Args (Nat.lt_succ_self _) (by have := GStmt.wl_Args hxw; omega) (GStmt.wf_Args hxw)
      have hB := ih x.Body (by cases x; simp only [GStmt.Body, GStmt.mk.sizeOf_spec] at *; omega) (GStmt.wl_Body hxw) (GStmt.wf_Body hxw)
      have hC := ih x.Else (by cases x; simp only [GStmt.Else, GStmt.mk.sizeOf_spec] at *; omega) (GStmt.wl_Else hxw) (GStmt.wf_Else hxw)
      clear hsp ih
      simp [-cB, hlt, hge]
      refine AWP.regionE Tryz.mixed (OrdR.edge 8 9 (by decide) (OrdR.m0 [some (0, 2), some (0, 2), some (0, 2), some (0, 2), some (0, 3), some (0, 3), some (0, 3), some (0, 3), none, none, none, none] [] (by kernel_rfl) ?_) (OrdR.perm [0, 1, 2, 3, 4, 5, 6, 7, 9, 8, 10, 11] [0, 1, 2, 3, 4, 5, 6, 7, 9, 8, 10, 11] (by kernel_rfl) (by kernel_rfl) (OrdR.m0 [some (0, 2), some (0, 2), some (0, 2), some (0, 2), some (0, 3), some (0, 3), some (0, 3), some (0, 3), none, none, none, none] [] (by kernel_rfl) ?_)))
      all_goals
        simp [-cB, hlt, hge]
        intro bs
        refine AOps.pureG rfl (fun h => hA) rfl (by first | rfl | (simp; done) | (simp; rfl)) (by simp) (by simp) rfl ?_
        simp [-cB]
        refine AOps.pureG rfl (fun h => hB) rfl (by first | rfl | (simp; done) | (simp; rfl)) (by simp) (by simp) rfl ?_
        simp [-cB]
        refine AOps.pureG rfl (fun h => hC) rfl (by first | rfl | (simp; done) | (simp; rfl)) (by simp) (by simp) rfl ?_
        simp [-cB, a4]
    · intro _
      simp [-cB]
end Go.Ab

namespace Go.Ab
open Go.Proofs
set_option maxHeartbeats 4000000
set_option maxRecDepth 20000
theorem wAmong_ok (n lo hi : Int) : Pure Tryz.prog 49 [.d (.v (.int .i64 n)), .d (.v (.int .i64 lo)), .d (.v (.int .i64 hi))] (.d (.v (.bool (fromB n lo hi)))) := by
  unfold fromB
  refine Pure.run Tryz.func49 rfl (by simp [Tryz.f49]) ?_; simp [Tryz.f49]
theorem wIs_ok (n : Int) : Pure Tryz.prog 86 [.d (.v (.int .i64 n))] (.d (.v (.bool (int16 n)))) := by
  have e : int16 n = decide (n = IntKind.wrap .i64 (IntKind.wrap .i16 n)) := by
    unfold int16 fromB
    rw [Bool.eq_iff_iff]
    simp [IntKind.wrap, IntKind.signed, IntKind.bits]
    omega
  rw [e]
  refine Pure.run Tryz.func86 rfl (by simp [Tryz.f86]) ?_; simp [Tryz.f86]
theorem wZero_ok (n : Int) : Pure Tryz.prog 136 [.d (.v (.int .i64 n))] (.d (.v (.bool (decide (n = 0))))) := by
  refine Pure.run Tryz.func136 rfl (by simp [Tryz.f136]) ?_; simp [Tryz.f136]
theorem lSmall_ok (c : Int) : Pure Tryz.prog 183 [.d (.v (.int .u8 c))] (.d (.v (.bool (smallB c)))) := by
  unfold smallB fromB
  refine Pure.run Tryz.func183 rfl (by simp [Tryz.f183]) ?_; simp [Tryz.f183]
theorem lDigit_ok (c : Int) : Pure Tryz.prog 184 [.d (.v (.int .u8 c))] (.d (.v (.bool (digitB c)))) := by
  unfold digitB fromB
  refine Pure.run Tryz.func184 rfl (by simp [Tryz.f184]) ?_; simp [Tryz.f184]
def anyB (c : Int) : Bool := (decide (32 ≤ c) && decide (c ≤ 126)) || decide (c = 10)
theorem lAny_ok (c : Int) : Pure Tryz.prog 134 [.d (.v (.int .u8 c))] (.d (.v (.bool (anyB c)))) := by
  unfold anyB
  refine Pure.run Tryz.func134 rfl (by simp [Tryz.f134]) ?_; simp [Tryz.f134]
  omega
def firstB (c : Int) : Bool := smallB c || digitB c
theorem lFirst_ok (c : Int) : Pure Tryz.prog 182 [.d (.v (.int .u8 c))] (.d (.v (.bool (firstB c)))) := by
  unfold firstB
  refine Pure.run Tryz.func182 rfl (by simp [Tryz.f182]) ?_; simp [-cB, Tryz.f182]
  repeat' (first
    | (with_reducible refine And.intro ?_ ?_)
    | (refine condC_split (fun h => ?_) (fun h => ?_) <;> (try simp at h) <;> (try simp [-cB, *]))
    | (refine AOps.pureC rfl (lSmall_ok _) rfl rfl (by simp) rfl ?_ <;> (try simp [-cB, *]))
    | (refine AOps.pureC rfl (lDigit_ok _) rfl rfl (by simp) rfl ?_ <;> (try simp [-cB, *]))
    | (refine AOps.lendC rfl (lSmall_ok _) rfl (by simp) rfl rfl (by simp) rfl ?_ <;> (try simp [-cB, *]))
    | (refine AOps.lendC rfl (lDigit_ok _) rfl (by simp) rfl rfl (by simp) rfl ?_ <;> (try simp [-cB, *]))
    | (refine AOps.pureG rfl (fun h => lSmall_ok _) rfl (by first | rfl | (simp; rfl)) (by simp) (by simp) rfl ?_ <;> (try simp [-cB, *]))
    | (refine AOps.pureG rfl (fun h => lDigit_ok _) rfl (by first | rfl | (simp; rfl)) (by simp) (by simp) rfl ?_ <;> (try simp [-cB, *]))
    | (with_reducible intro _))
def lallB (s : ByteArray) (most : Int) (p1 p2 : Int → Bool) : Bool :=
  decide (1 ≤ s.size) && decide ((s.size : Int) ≤ most) && p1 (s.data.toList[0]?.getD 0).toNat && allB (fun c : UInt8 => p2 c.toNat) s.data.toList
theorem lAll_ok (s : ByteArray) (hs : s.size ≤ 1000000000000000) (most : Int) (g1 g2 : Nat) (p1 p2 : Int → Bool) (h1 : ∀ c, Pure Tryz.prog g1 [.d (.v (.int .u8 c))] (.d (.v (.bool (p1 c))))) (h2 : ∀ c, Pure Tryz.prog g2 [.d (.v (.int .u8 c))] (.d (.v (.bool (p2 c))))) :
    Pure Tryz.prog 135 [.d (.v (.string s)), .d (.v (.int .i64 most)), .clo (.func g1) [] [], .clo (.func g2) [] []] (.d (.v (.bool (lallB s most p1 p2)))) := by
  have hsz : s.data.toList.length = s.size := rfl
  unfold lallB
  refine Pure.run Tryz.func135 rfl (by simp [Tryz.f135]) ?_; simp [-cB, Tryz.f135]
  repeat' (first
    | (with_reducible refine And.intro ?_ ?_)
    | (refine condC_split (fun h => ?_) (fun h => ?_) <;> (try simp at h) <;> (try simp [-cB, *]))
    | (refine AOps.pureC rfl (h1 _) rfl rfl (by simp) rfl ?_ <;> (try simp [-cB, *]))
    | (refine AOps.pureC rfl (h2 _) rfl rfl (by simp) rfl ?_ <;> (try simp [-cB, *]))
    | (refine AOps.lendC rfl (h1 _) rfl (by simp) rfl rfl (by simp) rfl ?_ <;> (try simp [-cB, *]))
    | (refine AOps.lendC rfl (h2 _) rfl (by simp) rfl rfl (by simp) rfl ?_ <;> (try simp [-cB, *]))
    | (refine AOps.pureG rfl (fun h => h1 _) rfl (by first | rfl | (simp; rfl)) (by simp) (by simp) rfl ?_ <;> (try simp [-cB, *]))
    | (refine AOps.pureG rfl (fun h => h2 _) rfl (by first | rfl | (simp; rfl)) (by simp) (by simp) rfl ?_ <;> (try simp [-cB, *]))
    | (with_reducible intro _))
  all_goals first | omega | assumption | skip
  · rename_i a1 a2 a3
    rcases h with (h | h) | h
    · omega
    · omega
    · rw [a3] at h; cases h
  · refine AWP.loopL [0, 3, 27, 28] s.data.toList (fun pre => [(28, .d (.v (.int .i64 pre.length)))]) (fun _ => []) (fun pre => allB (fun c : UInt8 => p2 c.toNat) pre = true) (by rfl) (by omega) (by simp [allB_nil]) ?_ ?_
    · rintro pre x post hsp hH hlt hge a4
      have hall := allB_split hsp hH
      have hge2 : s.data[pre.length]'hlt = x := by simpa using hge
      have hsn : allB (fun c : UInt8 => p2 c.toNat) (pre ++ [x]) = p2 x.toNat := by simp [allB_snoc, hH]
      have h3 := h2 x.toNat
      rw [hsz] at hlt
      clear hsp hge
      simp [-cB, *]
      repeat' (first
        | (with_reducible refine And.intro ?_ ?_)
        | (refine condC_split (fun h => ?_) (fun h => ?_) <;> (try simp at h) <;> (try simp [-cB, *]))
        | (refine AOps.pureC rfl (h3) rfl rfl (by simp) rfl ?_ <;> (try simp [-cB, *]))
        | (refine AOps.lendC rfl (h3) rfl (by simp) rfl rfl (by simp) rfl ?_ <;> (try simp [-cB, *]))
        | (refine AOps.pureG rfl (fun h => h3) rfl (by first | rfl | (simp; rfl)) (by simp) (by simp) rfl ?_ <;> (try simp [-cB, *]))
        | (with_reducible intro _))
      all_goals (first | assumption | omega | (rw [inR_i64]; omega) | (simp_all; done) | grind | skip)
    · intro hH
      simp [*]
      omega
theorem txt_any (c : UInt8) : txtB c = anyB c.toNat := by
  unfold txtB anyB
  rw [Bool.eq_iff_iff]
  simp
theorem any_all (s : ByteArray) : isTextB s = (s.toList.isEmpty || lallB s 1024 anyB anyB) := by
  rw [ByteArray.toList_eq]
  unfold isTextB lallB
  rw [show txtB = fun c : UInt8 => anyB c.toNat from funext txt_any]
  have hsz : s.data.toList.length = s.size := rfl
  cases hl : s.data.toList with
  | nil =>
    rw [hl] at hsz
    have h0 : s.size = 0 := hsz.symm
    simp [h0, allB]
  | cons c l =>
    rw [hl, List.length_cons] at hsz
    have h2 : decide (1 ≤ s.size) = true := decide_eq_true (by omega)
    have e : decide (s.size ≤ 1024) = decide ((s.size : Int) ≤ 1024) := by
      rw [Bool.eq_iff_iff]; simp; omega
    rw [h2, e]
    show _ = (false || (true && decide ((s.size : Int) ≤ 1024) && anyB c.toNat && (anyB c.toNat && allB (fun c : UInt8 => anyB c.toNat) l)))
    show ((anyB c.toNat && allB (fun c : UInt8 => anyB c.toNat) l) && decide ((s.size : Int) ≤ 1024)) = _
    cases anyB c.toNat <;> simp [Bool.and_comm]
theorem wIsText_ok (s : ByteArray) (hs : s.size ≤ 1000000000000000) : Pure Tryz.prog 92 [.d (.v (.string s))] (.d (.v (.bool (isTextB s)))) := by
  have h := lAll_ok s hs 1024 134 134 anyB anyB lAny_ok lAny_ok
  rw [any_all]
  generalize lallB s 1024 anyB anyB = R at *
  refine Pure.run Tryz.func92 rfl (by simp [Tryz.f92]) ?_; simp [-cB, Tryz.f92]
  refine AOps.pureG rfl (fun _ => h) rfl (by first | rfl | (simp; rfl)) (by simp) (by simp) rfl ?_
  simp [-cB]
  cases s.toList <;> simp
def wletB (c : Int) : Bool := firstB c || decide (c = 45) || decide (c = 39)
theorem lEach_ok (b : Nat) (c : Int) : ACalls Tryz.prog 185 [.d (.v (.int .u8 c)), .bp 3 0] [(3, .box (b + 1) 153 [.clo (.func 182) [] []])] (fun r L => r = .ret (.d (.v (.bool (wletB c)))) ∧ L = [(3, .box (b + 1) 153 [.clo (.func 182) [] []])]) := by
  have h := lFirst_ok c
  unfold wletB
  refine ACalls.runX [3] [3] Tryz.func185 rfl (by simp [Tryz.f185]) ?_; simp [-cB, Tryz.f185]
  refine AOps.pureC rfl (h) rfl rfl (by simp) rfl ?_
  simp [-cB]
theorem lAllW_ok (s : ByteArray) (hs : s.size ≤ 1000000000000000) (b : Nat) :
    ACalls Tryz.prog 135 [.d (.v (.string s)), .d (.v (.int .i64 9)), .clo (.func 182) [] [], .clo (.func 185) [] [.bp 3 0]] [(3, .box (b + 1) 153 [.clo (.func 182) [] []])]
      (fun r L => r = .ret (.d (.v (.bool (lallB s 9 firstB wletB)))) ∧ L = [(3, .box (b + 1) 153 [.clo (.func 182) [] []])]) := by
  have hsz : s.data.toList.length = s.size := rfl
  have h1 := lFirst_ok
  unfold lallB
  refine ACalls.runX [8] [3] Tryz.func135 rfl (by simp [Tryz.f135]) ?_; simp [-cB, Tryz.f135]
  repeat' (first
    | (with_reducible refine And.intro ?_ ?_)
    | (refine condC_split (fun h => ?_) (fun h => ?_) <;> (try simp at h) <;> (try simp [-cB, *]))
    | (refine AOps.pureC rfl (h1 _) rfl rfl (by simp) rfl ?_ <;> (try simp [-cB, *]))
    | (refine AOps.lendC rfl (h1 _) rfl (by simp) rfl rfl (by simp) rfl ?_ <;> (try simp [-cB, *]))
    | (refine AOps.pureG rfl (fun h => h1 _) rfl (by first | rfl | (simp; rfl)) (by simp) (by simp) rfl ?_ <;> (try simp [-cB, *]))
    | (with_reducible intro _))
  all_goals first | omega | assumption | skip
  · rename_i a1 a2 a3
    rcases h with (h | h) | h
    · omega
    · omega
    · rw [a3] at h; cases h
  · refine AWP.loopL [0, 3, 27, 28] s.data.toList (fun pre => [(28, .d (.v (.int .i64 pre.length)))]) (fun _ => []) (fun pre => allB (fun c : UInt8 => wletB c.toNat) pre = true) (by rfl) (by omega) (by simp [allB_nil]) ?_ ?_
    · rintro pre x post hsp hH hlt hge a4
      have hall := allB_split hsp hH
      have hge2 : s.data[pre.length]'hlt = x := by simpa using hge
      have hsn : allB (fun c : UInt8 => wletB c.toNat) (pre ++ [x]) = wletB x.toNat := by simp [allB_snoc, hH]
      have h3 := lEach_ok b x.toNat
      rw [hsz] at hlt
      clear hsp hge h1
      simp [-cB, *]
      refine AOps.effD [3] rfl (h3) (by simp) rfl (by simp) rfl (by kernel_rfl) (by first | rfl | simp) (by simp) (by simp) (by simp) (by simp) ?_
      simp [-cB]
      cases hw : wletB x.toNat with
      | false => simp [*]
      | true => simp [*]
    · intro hH
      simp [*]
      omega
theorem wrd_let (c : UInt8) : wrdB c = wletB c.toNat := by
  unfold wrdB rowB wletB firstB smallB greatB digitB fromB
  rw [Bool.eq_iff_iff]
  simp
  omega
theorem word_all (s : ByteArray) : isWordB s = lallB s 9 firstB wletB := by
  unfold isWordB lallB firstB
  rw [show wrdB = fun c : UInt8 => wletB c.toNat from funext wrd_let]
  congr 1
  congr 1
  congr 1
  rw [Bool.eq_iff_iff]; simp; omega
theorem wIsWord_ok (s : ByteArray) (hs : s.size ≤ 1000000000000000) : Pure Tryz.prog 138 [.d (.v (.string s))] (.d (.v (.bool (isWordB s)))) := by
  have h := lAllW_ok s hs
  rw [word_all]
  generalize lallB s 9 firstB wletB = R at *
  refine Pure.run Tryz.func138 rfl (by simp [Tryz.f138]) ?_; simp [-cB, Tryz.f138]
  intro bs
  refine AOps.effD [3] rfl ((h _)) (by simp) rfl (by simp) rfl (by kernel_rfl) (by first | rfl | simp) (by simp) (by simp) (by simp) (by simp) ?_
  simp [-cB]
end Go.Ab

namespace Go.Ab
open Go.Proofs
set_option maxHeartbeats 4000000
set_option maxRecDepth 20000
theorem allInt_ok (l : List Int) (hl : l.length ≤ 1000000000000000) (g : Nat) (caps : List V) (hc : V.ons [] caps = true) (p : Int → Bool) (h : ∀ x ∈ l, Pure Tryz.prog g (.d (.v (.int .i64 x)) :: caps) (.d (.v (.bool (p x))))) :
    Pure Tryz.prog 55 [.d (.sl (encI l)), .clo (.func g) [] caps] (.d (.v (.bool (allB p l)))) := by
  refine Pure.run Tryz.func55 rfl (by simp [Tryz.f55, hc]) ?_; simp [-cB, Tryz.f55, hc]
  refine AWP.loopL [1, 7, 8, 9] l (fun pre => [(9, .d (.v (.int .i64 pre.length)))]) (fun _ => []) (fun pre => allB p pre = true) (by rfl) (by omega) (by simp [allB_nil, hc]) ?_ ?_
  · rintro pre x post hsp hH hlt hge a4
    have hall := allB_split hsp hH
    have hsn : allB p (pre ++ [x]) = p x := by simp [allB_snoc, hH]
    have h3 := h x (by rw [hsp]; simp)
    clear hsp h
    simp [-cB, *]
    repeat' (first
      | (with_reducible refine And.intro ?_ ?_)
      | (refine condC_split (fun h => ?_) (fun h => ?_) <;> (try simp at h) <;> (try simp [-cB, *]))
      | (refine AOps.pureC rfl (h3) rfl rfl (by simp) rfl ?_ <;> (try simp [-cB, *]))
      | (refine AOps.lendC rfl (h3) rfl (by simp) rfl rfl (by simp) rfl ?_ <;> (try simp [-cB, *]))
      | (refine AOps.pureG rfl (fun h => h3) rfl (by first | rfl | (simp; rfl)) (by simp) (by simp) rfl ?_ <;> (try simp [-cB, *]))
      | (with_reducible intro _))
    all_goals (first | assumption | omega | (rw [inR_i64]; omega) | (simp_all; done) | grind | skip)
  · intro hH
    simp [*]
theorem allStr_ok (l : List ByteArray) (hl : l.length ≤ 1000000000000000) (g : Nat) (caps : List V) (hc : V.ons [] caps = true) (p : ByteArray → Bool) (h : ∀ x ∈ l, Pure Tryz.prog g (.d (.v (.string x)) :: caps) (.d (.v (.bool (p x))))) :
    Pure Tryz.prog 91 [.d (.sl (encS l)), .clo (.func g) [] caps] (.d (.v (.bool (allB p l)))) := by
  refine Pure.run Tryz.func91 rfl (by simp [Tryz.f91, hc]) ?_; simp [-cB, Tryz.f91, hc]
  refine AWP.loopL [1, 7, 8, 9] l (fun pre => [(9, .d (.v (.int .i64 pre.length)))]) (fun _ => []) (fun pre => allB p pre = true) (by rfl) (by omega) (by simp [allB_nil, hc]) ?_ ?_
  · rintro pre x post hsp hH hlt hge a4
    have hall := allB_split hsp hH
    have hsn : allB p (pre ++ [x]) = p x := by simp [allB_snoc, hH]
    have h3 := h x (by rw [hsp]; simp)
    clear hsp h
    simp [-cB, *]
    repeat' (first
      | (with_reducible refine And.intro ?_ ?_)
      | (refine condC_split (fun h => ?_) (fun h => ?_) <;> (try simp at h) <;> (try simp [-cB, *]))
      | (refine AOps.pureC rfl (h3) rfl rfl (by simp) rfl ?_ <;> (try simp [-cB, *]))
      | (refine AOps.lendC rfl (h3) rfl (by simp) rfl rfl (by simp) rfl ?_ <;> (try simp [-cB, *]))
      | (refine AOps.pureG rfl (fun h => h3) rfl (by first | rfl | (simp; rfl)) (by simp) (by simp) rfl ?_ <;> (try simp [-cB, *]))
      | (with_reducible intro _))
    all_goals (first | assumption | omega | (rw [inR_i64]; omega) | (simp_all; done) | grind | skip)
  · intro hH
    simp [*]
theorem allAct_ok (l : List GAct) (hl : l.length ≤ 1000000000000000) (g : Nat) (caps : List V) (hc : V.ons [] caps = true) (p : GAct → Bool) (h : ∀ x ∈ l, Pure Tryz.prog g (.agg (x.enc.map .d) :: caps) (.d (.v (.bool (p x))))) :
    Pure Tryz.prog 47 [.d (.sl (l.map GAct.enc)), .clo (.func g) [] caps] (.d (.v (.bool (allB p l)))) := by
  refine Pure.run Tryz.func47 rfl (by simp [Tryz.f47, hc]) ?_; simp [-cB, Tryz.f47, hc]
  refine AWP.loopL [1, 7, 8, 9] l (fun pre => [(9, .d (.v (.int .i64 pre.length)))]) (fun _ => []) (fun pre => allB p pre = true) (by rfl) (by omega) (by simp [allB_nil, hc]) ?_ ?_
  · rintro pre x post hsp hH hlt hge a4
    have hall := allB_split hsp hH
    have hsn : allB p (pre ++ [x]) = p x := by simp [allB_snoc, hH]
    have h3 := h x (by rw [hsp]; simp)
    clear hsp h
    simp [-cB, *]
    repeat' (first
      | (with_reducible refine And.intro ?_ ?_)
      | (refine condC_split (fun h => ?_) (fun h => ?_) <;> (try simp at h) <;> (try simp [-cB, *]))
      | (refine AOps.pureC rfl (h3) rfl rfl (by simp) rfl ?_ <;> (try simp [-cB, *]))
      | (refine AOps.lendC rfl (h3) rfl (by simp) rfl rfl (by simp) rfl ?_ <;> (try simp [-cB, *]))
      | (refine AOps.pureG rfl (fun h => h3) rfl (by first | rfl | (simp; rfl)) (by simp) (by simp) rfl ?_ <;> (try simp [-cB, *]))
      | (with_reducible intro _))
    all_goals (first | assumption | omega | (rw [inR_i64]; omega) | (simp_all; done) | grind | skip)
  · intro hH
    simp [*]
theorem allLine_ok (l : List (List GSlot)) (hl : l.length ≤ 1000000000000000) (g : Nat) (caps : List V) (hc : V.ons [] caps = true) (p : (List GSlot) → Bool) (h : ∀ x ∈ l, Pure Tryz.prog g (.d (.sl (x.map GSlot.enc)) :: caps) (.d (.v (.bool (p x))))) :
    Pure Tryz.prog 50 [.d (.sl (encSl (List.map GSlot.enc) l)), .clo (.func g) [] caps] (.d (.v (.bool (allB p l)))) := by
  refine Pure.run Tryz.func50 rfl (by simp [Tryz.f50, hc]) ?_; simp [-cB, Tryz.f50, hc]
  refine AWP.loopL [1, 7, 8, 9] l (fun pre => [(9, .d (.v (.int .i64 pre.length)))]) (fun _ => []) (fun pre => allB p pre = true) (by rfl) (by omega) (by simp [allB_nil, hc]) ?_ ?_
  · rintro pre x post hsp hH hlt hge a4
    have hall := allB_split hsp hH
    have hsn : allB p (pre ++ [x]) = p x := by simp [allB_snoc, hH]
    have h3 := h x (by rw [hsp]; simp)
    clear hsp h
    simp [-cB, *]
    repeat' (first
      | (with_reducible refine And.intro ?_ ?_)
      | (refine condC_split (fun h => ?_) (fun h => ?_) <;> (try simp at h) <;> (try simp [-cB, *]))
      | (refine AOps.pureC rfl (h3) rfl rfl (by simp) rfl ?_ <;> (try simp [-cB, *]))
      | (refine AOps.lendC rfl (h3) rfl (by simp) rfl rfl (by simp) rfl ?_ <;> (try simp [-cB, *]))
      | (refine AOps.pureG rfl (fun h => h3) rfl (by first | rfl | (simp; rfl)) (by simp) (by simp) rfl ?_ <;> (try simp [-cB, *]))
      | (with_reducible intro _))
    all_goals (first | assumption | omega | (rw [inR_i64]; omega) | (simp_all; done) | grind | skip)
  · intro hH
    simp [*]
end Go.Ab

namespace Go.Ab
open Go.Proofs
def topP (t : GTables) : Nat → Int → Int
  | 0, _ => 0
  | k + 1, x => if (thingAt t x).Parent = 0 then x else topP t k (thingAt t x).Parent
theorem topP_ne (t : GTables) : ∀ (k : Nat) (x : Int), x ≠ 0 → (topP t k x ≠ 0 ↔ ∃ j, j < k ∧ upN t (j + 1) x = 0)
  | 0, x, _ => ⟨fun h => (h rfl).elim, fun ⟨j, hj, _⟩ => by omega⟩
  | k + 1, x, hx => by
    rw [topP]
    split
    · rename_i h0
      exact ⟨fun _ => ⟨0, by omega, h0⟩, fun _ => hx⟩
    · rename_i h0
      rw [topP_ne t k _ h0]
      constructor
      · rintro ⟨j, h1, h2⟩
        exact ⟨j + 1, by omega, h2⟩
      · rintro ⟨j, h1, h2⟩
        cases j with
        | zero => exact (h0 h2).elim
        | succ j => exact ⟨j, by omega, h2⟩
theorem endsM_ne (t : GTables) : ∀ (k : Nat) (x : Int), (endsM t k x = true ↔ ∃ j, j < k ∧ upN t j x = 0)
  | 0, x => ⟨fun h => by simp [endsM] at h, fun ⟨j, hj, _⟩ => by omega⟩
  | k + 1, x => by
    rw [endsM]
    split
    · rename_i h0
      exact ⟨fun _ => ⟨0, by omega, h0⟩, fun _ => rfl⟩
    · rename_i h0
      rw [endsM_ne t k]
      constructor
      · rintro ⟨j, h1, h2⟩
        exact ⟨j + 1, by omega, h2⟩
      · rintro ⟨j, h1, h2⟩
        cases j with
        | zero => exact (h0 h2).elim
        | succ j => exact ⟨j, by omega, h2⟩
theorem upN_add (t : GTables) : ∀ (a b : Nat) (x : Int), upN t (a + b) x = upN t b (upN t a x)
  | 0, b, x => by rw [Nat.zero_add]; rfl
  | a + 1, b, x => by rw [show a + 1 + b = (a + b) + 1 by omega, upN, upN, upN_add t a b]
theorem up_soon {t : GTables} (hp : parentsB t) {x : Int} (hx : 0 ≤ x ∧ x < t.Things.length) {k : Nat} (h : upN t k x = 0) : ∃ j, j < t.Things.length ∧ upN t j x = 0 := by
  induction k using Nat.strongRecOn with
  | ind k ih =>
    by_cases hk : k < t.Things.length
    · exact ⟨k, hk, h⟩
    by_cases hz : ∃ j, j < k ∧ upN t j x = 0
    · obtain ⟨j, h1, h2⟩ := hz
      exact ih j h1 h2
    have hz' : ∀ j, j < k → upN t j x ≠ 0 := fun j hj he => hz ⟨j, hj, he⟩
    have hl : ¬ ((List.range t.Things.length).map fun j => upN t j x).Nodup := by
      intro hn
      rcases nodup_lt (n := t.Things.length) hn (by
        intro y hy
        obtain ⟨j, hj, rfl⟩ := List.mem_map.1 hy
        have hj := List.mem_range.1 hj
        have h1 := upN_in hp j x hx
        have h2 := hz' j (by omega)
        omega) with h1 | h1
      · simp at h1
      · rw [List.map_eq_nil_iff, List.range_eq_nil] at h1; omega
    have : ∃ a b, a < b ∧ b < t.Things.length ∧ upN t a x = upN t b x := by
      refine Classical.byContradiction fun hno => hl ?_
      rw [List.nodup_iff_pairwise_ne, List.pairwise_map]
      refine List.Pairwise.imp_of_mem ?_ List.pairwise_lt_range
      intro a b ha hb hab he
      exact hno ⟨a, b, hab, List.mem_range.1 hb, he⟩
    obtain ⟨a, b, hab, hb, he⟩ := this
    have h3 : upN t (a + (k - b)) x = 0 := by
      rw [upN_add, he, ← upN_add, show b + (k - b) = k by omega]
      exact h
    exact absurd h3 (hz' _ (by omega))
theorem top_ends {t : GTables} (hp : parentsB t) {x : Int} (hx : 0 < x ∧ x < t.Things.length) : decide (topP t t.Things.length x ≠ 0) = endsB t x := by
  rw [Bool.eq_iff_iff, decide_eq_true_eq, endsB, endsM_ne, topP_ne t _ x (by omega)]
  constructor
  · rintro ⟨j, h1, h2⟩
    exact up_soon hp ⟨by omega, hx.2⟩ h2
  · rintro ⟨j, h1, h2⟩
    cases j with
    | zero => exact absurd h2 (by show x ≠ 0; omega)
    | succ j => exact ⟨j, by omega, h2⟩
theorem roomM_top {t : GTables} (hp : parentsB t) (hr : ∀ x ∈ t.Things, x.Room = true → x.Parent = 0) : ∀ (k : Nat) (x : Int), 0 < x ∧ x < t.Things.length → topP t k x ≠ 0 → roomM t k x = roomB t (topP t k x)
  | 0, x, _, h => (h rfl).elim
  | k + 1, x, hx, h => by
    have hth : thingB t x = true := by unfold thingB fromB; simp; omega
    have hmem := thingAt_mem (t := t) (n := x) ⟨by omega, hx.2⟩
    have hrb : roomB t x = (thingAt t x).Room := rfl
    rw [roomM, if_pos hth]
    rw [topP] at h ⊢
    split at h
    · rename_i h0
      rw [if_pos h0]
      cases hR : roomB t x with
      | true => rfl
      | false =>
        rw [if_neg (by simp), h0]
        cases k with
        | zero => rfl
        | succ k => rw [roomM, if_neg (by simp [thingB, fromB])]
    · rename_i h0
      rw [if_neg h0]
      have hR : roomB t x = false := by
        cases hR : roomB t x with
        | false => rfl
        | true => exact absurd (hr _ hmem (by rw [← hrb]; exact hR)) h0
      have hpx := hp _ hmem
      rw [hR, if_neg (by simp)]
      exact roomM_top hp hr k _ ⟨by omega, hpx.2⟩ h
theorem topP_in {t : GTables} (hp : parentsB t) : ∀ (k : Nat) (x : Int), 0 ≤ x ∧ x < t.Things.length → 0 ≤ topP t k x ∧ topP t k x < t.Things.length
  | 0, x, hx => by rw [topP]; omega
  | k + 1, x, hx => by
    rw [topP]
    split
    · exact hx
    · exact topP_in hp k _ (hp _ (thingAt_mem hx))
def freeP (t : GTables) (n : Int) : Bool := fromB n 0 (t.Params.length - 1) && decide (t.Params[n.toNat]?.getD 0 = 0)
def wayP (t : GTables) (last : Int) (w : GWay) : Bool :=
  decide (last < w.Dir) && decide (w.Dir ≤ 12) && (thingB t w.To && roomB t w.To) && (decide (w.When = -1) || freeP t w.When) && (decide (w.Else = -1) || fromB w.Else 0 (t.Texts.length - 1))
def waysP (t : GTables) : Int → List GWay → Bool
  | _, [] => true
  | p, w :: l => wayP t p w && waysP t w.Dir l
theorem waysP_eq (t : GTables) : ∀ (l : List GWay) (p : Option GWay), (∀ q, p = some q → 1 ≤ q.Dir) → waysP t ((p.map (·.Dir)).getD 0) l = waysM t p l
  | [], _, _ => rfl
  | w :: l, p, hp => by
    rw [waysP, waysM]
    by_cases h1 : 1 ≤ w.Dir
    · rw [← waysP_eq t l (some w) (by intro q hq; cases hq; exact h1)]
      congr 1
      unfold wayP wayB routB textB freeP prevB fromB
      cases p with
      | none =>
        simp only [Option.map_none, Option.getD_none, Bool.true_and, Bool.and_true, show decide (0 < w.Dir) = true by simp; omega, show decide (1 ≤ w.Dir) = true by simp; exact h1, Bool.and_assoc]
        congr 2
        rw [Bool.or_comm (decide (w.Else = -1))]
      | some q =>
        have := hp q rfl
        simp only [Option.map_some, Option.getD_some, Bool.true_and, show decide (1 ≤ w.Dir) = true by simp; exact h1, Bool.and_assoc]
        rw [Bool.and_comm (decide (q.Dir < w.Dir)), Bool.and_assoc]
        congr 1
        rw [Bool.and_comm _ (decide (q.Dir < w.Dir))]
        congr 3
        rw [Bool.or_comm (decide (w.Else = -1))]
    · have e1 : wayP t ((p.map (·.Dir)).getD 0) w = false := by
        unfold wayP
        have : decide ((p.map (·.Dir)).getD 0 < w.Dir) = false := by
          cases p with
          | none => simp; omega
          | some q => have := hp q rfl; simp; omega
        rw [this]; rfl
      have e2 : wayB t p w = false := by
        unfold wayB fromB
        have : decide (1 ≤ w.Dir) = false := by simp; omega
        rw [this]; rfl
      rw [e1, e2]; rfl
end Go.Ab

namespace Go.Ab
open Go.Proofs
def textI (t : GTables) (n : Int) : Bool := fromB n 0 (t.Texts.length - 1)
theorem textI_eq (t : GTables) (n : Int) : textI t n = textB t n false := by unfold textI textB; simp
theorem textI_or (t : GTables) (n : Int) : (decide (n = -1) || textI t n) = textB t n true := by unfold textI textB; rw [Bool.true_and, Bool.or_comm]
theorem freeP_eq (t : GTables) (n : Int) : freeP t n = routB t n false := by unfold freeP routB; simp
theorem freeP_or (t : GTables) (n : Int) : (decide (n = -1) || freeP t n) = routB t n true := by unfold freeP routB; simp
def wordsP (l : List ByteArray) (most : Int) : Bool := decide ((l.length : Int) ≤ most) && allB isWordB l
theorem wordsP_eq (l : List ByteArray) (most : Int) : wordsP l most = wordsB l most := by unfold wordsP wordsB; rw [Bool.and_comm]
def nothingP (x : GThing) : Bool :=
  decide (x.Title = 0) && decide (x.Text = -1) && decide (x.Parent = 0) && decide (x.Flags = 0) && !x.Room && allB (fun n => decide (n = 0)) x.Props && decide (x.Words.length + x.Adjs.length + x.Ways.length = 0)
def aloneP (t : GTables) (x : GThing) : Bool :=
  textI t x.Title && (decide (x.Text = -1) || textI t x.Text) && decide (0 ≤ x.Flags) && decide (x.Flags < bitsM t.Flags) && allB int16 x.Props && wordsP x.Words 8 && wordsP x.Adjs 8 &&
  (if x.Room then decide (x.Parent = 0) && waysP t 0 x.Ways else decide (x.Ways.length = 0) && (decide (x.Parent = 0) || thingB t x.Parent))
theorem alone_eq (t : GTables) (x : GThing) : (decide (x.Props.length = t.Props.length) && aloneP t x) = thingOk t x := by
  unfold aloneP thingOk
  rw [textI_eq, textI_or, wordsP_eq, wordsP_eq, show waysP t 0 x.Ways = waysB t x.Ways from waysP_eq t x.Ways none (fun _ h => by cases h)]
  rw [show fromB x.Flags 0 (bitsM t.Flags - 1) = (decide (0 ≤ x.Flags) && decide (x.Flags < bitsM t.Flags)) by unfold fromB; congr 1; simp; omega]
  cases hR : x.Room with
  | true =>
    rw [if_pos rfl]
    simp only [Bool.not_true, Bool.false_or, Bool.true_or, Bool.and_true]
    by_cases hP : x.Parent = 0
    · simp [hP, Bool.and_assoc, Bool.and_comm, Bool.and_left_comm]
    · simp [hP]
  | false =>
    rw [if_neg (by simp)]
    simp only [Bool.not_false, Bool.true_or, Bool.and_true, Bool.false_or]
    by_cases hW : x.Ways.length = 0
    · have : x.Ways = [] := List.length_eq_zero_iff.1 hW
      rw [this]
      simp [waysB, waysM, Bool.and_assoc, Bool.and_comm, Bool.and_left_comm]
    · simp [hW]
def thingsP (t : GTables) : Bool :=
  fromB t.Things.length 3 128 && nothingP (thingAt t 0) && (allB (fun x : GThing => decide (x.Props.length = t.Props.length)) t.Things && allB (aloneP t) (t.Things.drop 1)) &&
  allB (fun i : Nat => decide (topP t t.Things.length ((i : Int) + 1) ≠ 0)) (List.range (t.Things.length - 1)) && (!(thingAt t 1).Room && (thingB t (topP t t.Things.length 1) && roomB t (topP t t.Things.length 1)))
theorem thingsP_eq (t : GTables) : thingsP t = thingsB t := by
  unfold thingsP thingsB
  by_cases hA : ¬ fromB t.Things.length 3 128 = true
  · rw [Bool.not_eq_true] at hA
    rw [hA]; rfl
  have hA : fromB t.Things.length 3 128 = true := Classical.not_not.1 hA
  have hlen : 3 ≤ t.Things.length := by unfold fromB at hA; simp at hA; omega
  obtain ⟨x0, xs, hT⟩ : ∃ x0 xs, t.Things = x0 :: xs := by
    cases h : t.Things with
    | nil => rw [h] at hlen; simp at hlen
    | cons a l => exact ⟨a, l, rfl⟩
  have h0 : thingAt t 0 = x0 := by unfold thingAt; rw [hT]; rfl
  have hd : t.Things.drop 1 = xs := by rw [hT]; rfl
  have hb : (nothingP x0 && decide (x0.Props.length = t.Props.length)) = nothingB t x0 := by
    unfold nothingP nothingB
    simp only [Bool.and_assoc, Bool.and_comm, Bool.and_left_comm]
  have hall : (allB (fun x : GThing => decide (x.Props.length = t.Props.length)) xs && allB (aloneP t) xs) = allB (thingOk t) xs := by
    unfold allB
    rw [Bool.eq_iff_iff, Bool.and_eq_true, List.all_eq_true, List.all_eq_true, List.all_eq_true]
    constructor
    · rintro ⟨h1, h2⟩ x hx
      rw [← alone_eq, h1 x hx, h2 x hx]; rfl
    · intro h
      have h' : ∀ x ∈ xs, decide (x.Props.length = t.Props.length) = true ∧ aloneP t x = true := by
        intro x hx
        have := h x hx
        rwa [← alone_eq, Bool.and_eq_true] at this
      exact ⟨fun x hx => (h' x hx).1, fun x hx => (h' x hx).2⟩
  rw [hA, h0, hd]
  have hsp : allB (fun x : GThing => decide (x.Props.length = t.Props.length)) t.Things = (decide (x0.Props.length = t.Props.length) && allB (fun x : GThing => decide (x.Props.length = t.Props.length)) xs) := by
    rw [hT]; rfl
  rw [hsp]
  have e1 : (true && nothingP x0 && (decide (x0.Props.length = t.Props.length) && allB (fun x : GThing => decide (x.Props.length = t.Props.length)) xs && allB (aloneP t) xs)) = (nothingB t x0 && allB (thingOk t) xs) := by
    rw [← hb, ← hall]
    simp only [Bool.true_and, Bool.and_assoc]
  rw [e1]
  cases hN : nothingB t x0 with
  | false => rfl
  | true =>
    cases hO : allB (thingOk t) xs with
    | false => simp
    | true =>
      have hN' := hN
      unfold nothingB at hN'
      simp only [Bool.and_eq_true, decide_eq_true_eq] at hN'
      have hx0 : x0.Parent = 0 := hN'.1.1.1.1.1.2
      have hR0 : x0.Room = false := by simpa using hN'.1.1.1.2
      have hk : ∀ x ∈ xs, (x.Parent = 0 ∨ thingB t x.Parent = true) ∧ (x.Room = true → x.Parent = 0) := by
        intro x hx
        have := List.all_eq_true.1 hO x hx
        unfold thingOk at this
        simp only [Bool.and_eq_true, Bool.or_eq_true, decide_eq_true_eq, Bool.not_eq_true'] at this
        refine ⟨this.1.1.1.2, fun hR => ?_⟩
        rcases this.1.1.2 with h | h
        · rw [hR] at h; cases h
        · exact h
      have hp : parentsB t := by
        intro x hx
        rw [hT] at hx
        rcases List.mem_cons.1 hx with rfl | hx
        · rw [hx0]; omega
        · rcases (hk x hx).1 with h | h
          · rw [h]; omega
          · unfold thingB fromB at h; simp at h; omega
      have hr : ∀ x ∈ t.Things, x.Room = true → x.Parent = 0 := by
        intro x hx hR
        rw [hT] at hx
        rcases List.mem_cons.1 hx with rfl | hx
        · exact hx0
        · exact (hk x hx).2 hR
      have hE : allB (fun i : Nat => decide (topP t t.Things.length ((i : Int) + 1) ≠ 0)) (List.range (t.Things.length - 1)) = allB (fun (i : Nat) => endsB t ((i : Int) + 1)) (List.range (t.Things.length - 1)) := by
        unfold allB
        rw [Bool.eq_iff_iff, List.all_eq_true, List.all_eq_true]
        constructor
        · intro h i hi
          rw [← top_ends hp (by have := List.mem_range.1 hi; omega)]
          exact h i hi
        · intro h i hi
          have := h i hi
          rw [← top_ends hp (by have := List.mem_range.1 hi; omega)] at this
          exact this
      rw [hE]
      cases hEE : allB (fun (i : Nat) => endsB t ((i : Int) + 1)) (List.range (t.Things.length - 1)) with
      | false => simp
      | true =>
        have h1 : endsB t 1 = true := List.all_eq_true.1 hEE 0 (List.mem_range.2 (by omega))
        rw [← top_ends hp (by omega)] at h1
        have hne : topP t t.Things.length 1 ≠ 0 := by simpa using h1
        have hin := topP_in hp t.Things.length 1 (by omega)
        have hth : thingB t (topP t t.Things.length 1) = true := by unfold thingB fromB; simp; omega
        have hrm := roomM_top hp hr t.Things.length 1 (by omega) hne
        rw [hth, Bool.true_and, ← hrm]
        show _ = (true && true && !(thingAt t 1).Room && true && true && inRoomB t 1)
        unfold inRoomB
        simp
end Go.Ab

namespace Go.Ab
open Go.Proofs
def numbersP (t : GTables) : Bool :=
  decide (t.Texts.length ≤ 4096) && allB isTextB t.Texts && textI t t.Title && textI t t.By && fromB t.Release 0 32767 && fromB t.Max 0 32767 && fromB t.Flags 4 16 && decide (t.Props.length ≤ 16) && decide (t.Globals.length ≤ 64) && allB int16 t.Props && allB int16 t.Globals
def routinesP (t : GTables) : Bool := decide (t.Params.length = t.Locals.length) && decide (t.Params.length ≤ 2048) && allB (paramB t) (List.range t.Params.length)
theorem head_eq (t : GTables) : (numbersP t && routinesP t) = headB t := by
  unfold numbersP routinesP headB
  rw [textI_eq, textI_eq]
  simp only [Bool.and_assoc, Bool.and_comm, Bool.and_left_comm]
def slotP (first : Bool) (s : GSlot) : Bool :=
  if s.Kind = 1 then decide (s.Words.length ≠ 0) && wordsP s.Words 4 else fromB s.Kind 2 5 && decide (s.Words.length = 0) && (!first || decide (s.Kind = 5))
def slotsP : Bool → List GSlot → Bool
  | _, [] => true
  | b, s :: l => slotP b s && slotsP false l
theorem slotP_eq (b : Bool) (s : GSlot) : slotP b s = (slotB s && (!b || (decide (s.Kind = 1) || decide (s.Kind = 5)))) := by
  unfold slotP slotB
  rw [wordsP_eq]
  split
  · rename_i h
    simp [h, fromB]
  · rename_i h
    by_cases hW : s.Words.length = 0
    · have : s.Words = [] := List.length_eq_zero_iff.1 hW
      rw [this]
      have hf : fromB s.Kind 2 5 = fromB s.Kind 1 5 := by
        unfold fromB; congr 1; simp; omega
      simp [h, hf, wordsB, allB]
    · have hp : 0 < s.Words.length := by omega
      simp [h, hW, hp]
theorem slotsP_false : ∀ l : List GSlot, slotsP false l = allB slotB l
  | [] => rfl
  | s :: l => by rw [slotsP, slotsP_false l, slotP_eq]; simp [allB]
def lineP (l : List GSlot) : Bool :=
  slotsP true l && (fromB l.length 1 8 && decide ((l.countP nounB : Int) ≤ 2) && decide ((l.countP (fun s => decide (s.Kind = 4)) : Int) ≤ 1) && decide ((l.countP (fun s => decide (s.Kind = 5)) : Int) ≤ 1))
theorem lineP_eq (l : List GSlot) : lineP l = lineB l := by
  cases l with
  | nil => rfl
  | cons s l =>
    unfold lineP lineB
    rw [slotsP, slotsP_false, slotP_eq]
    have e0 : ((s :: l)[0]?.getD GSlot.zero) = s := rfl
    rw [e0]
    generalize decide (((s :: l).countP nounB : Int) ≤ 2) = a
    generalize decide (((s :: l).countP (fun s => decide (s.Kind = 4)) : Int) ≤ 1) = b
    generalize decide (((s :: l).countP (fun s => decide (s.Kind = 5)) : Int) ≤ 1) = c
    generalize fromB ((s :: l).length : Nat) 1 8 = d
    generalize (decide (s.Kind = 1) || decide (s.Kind = 5)) = e
    show (slotB s && (false || e) && allB slotB l && (d && a && b && c)) = (allB slotB (s :: l) && (d && e && a && b && c))
    rw [show allB slotB (s :: l) = (slotB s && allB slotB l) from rfl]
    simp only [Bool.false_or, Bool.and_assoc, Bool.and_comm, Bool.and_left_comm]
def nounP (t : GTables) (n : Int) : Bool := decide (n = -1) || thingB t n
def actP (a : GAct) : Bool := fromB a.Lines.length 1 8 && allB lineP a.Lines
def deedP (t : GTables) (d : GDeed) : Bool :=
  fromB d.Verb 0 (t.Acts.length - 1) && fromB d.Phase 1 3 && nounP t d.Noun && nounP t d.Second && (decide (d.When = -1) || freeP t d.When) && freeP t d.Body
theorem actP_eq (a : GAct) : actP a = actB a := by
  unfold actP actB
  rw [show lineP = lineB from funext lineP_eq]
theorem deedP_eq (t : GTables) (d : GDeed) : deedP t d = deedB t d := by
  unfold deedP deedB nounP
  rw [freeP_or, freeP_eq]
def fitsP (t : GTables) : Bool :=
  numbersP t && routinesP t && thingsP t && decide (t.Acts.length ≤ 64) && decide (t.Deeds.length ≤ 512) && decide (t.Funcs.length ≤ 64) && decide (t.Daemons.length ≤ 16) &&
  (allB actP t.Acts && allB (deedP t) t.Deeds && (allB (fun n => fromB n 0 (t.Params.length - 1)) t.Funcs && allB (freeP t) t.Daemons))
theorem fitsP_eq (t : GTables) : fitsP t = fitsB t := by
  unfold fitsP fitsB rulesB
  rw [head_eq, thingsP_eq, show actP = actB from funext actP_eq, show deedP t = deedB t from funext (deedP_eq t), show freeP t = (fun n => routB t n false) from funext (freeP_eq t)]
  simp only [Bool.and_assoc]
end Go.Ab

namespace Go.Ab
open Go.Proofs
set_option maxHeartbeats 4000000
set_option maxRecDepth 20000
theorem wText_ok (t : GTables) (ht : t.wf) (n : Int) : Pure Tryz.prog 93 [.agg (t.enc.map .d), .d (.v (.int .i64 n))] (.d (.v (.bool (textI t n)))) := by
  have hlen : t.Texts.length ≤ 1000000000000000 := by have := GTables.wl_Texts ht; omega
  unfold textI
  refine Pure.run Tryz.func93 rfl (by simp [Tryz.f93]) ?_; simp [-cB, Tryz.f93]
  repeat' (first
    | (with_reducible refine And.intro ?_ ?_)
    | (refine condC_split (fun h => ?_) (fun h => ?_) <;> (try simp at h) <;> (try simp [-cB, *]))
    | (refine AOps.pureC rfl (wAmong_ok _ _ _) rfl rfl (by simp) rfl ?_ <;> (try simp [-cB, *]))
    | (refine AOps.lendC rfl (wAmong_ok _ _ _) rfl (by simp) rfl rfl (by simp) rfl ?_ <;> (try simp [-cB, *]))
    | (refine AOps.pureG rfl (fun h => wAmong_ok _ _ _) rfl (by first | rfl | (simp; rfl)) (by simp) (by simp) rfl ?_ <;> (try simp [-cB, *]))
    | (with_reducible intro _))
  all_goals (first | assumption | omega | (rw [inR_i64]; omega) | (simp_all [fromB]; done) | grind [fromB] | skip)
theorem wThing_ok (t : GTables) (ht : t.wf) (n : Int) : Pure Tryz.prog 46 [.agg (t.enc.map .d), .d (.v (.int .i64 n))] (.d (.v (.bool (thingB t n)))) := by
  have hlen : t.Things.length ≤ 1000000000000000 := by have := GTables.wl_Things ht; omega
  unfold thingB
  refine Pure.run Tryz.func46 rfl (by simp [Tryz.f46]) ?_; simp [-cB, Tryz.f46]
  repeat' (first
    | (with_reducible refine And.intro ?_ ?_)
    | (refine condC_split (fun h => ?_) (fun h => ?_) <;> (try simp at h) <;> (try simp [-cB, *]))
    | (refine AOps.pureC rfl (wAmong_ok _ _ _) rfl rfl (by simp) rfl ?_ <;> (try simp [-cB, *]))
    | (refine AOps.lendC rfl (wAmong_ok _ _ _) rfl (by simp) rfl rfl (by simp) rfl ?_ <;> (try simp [-cB, *]))
    | (refine AOps.pureG rfl (fun h => wAmong_ok _ _ _) rfl (by first | rfl | (simp; rfl)) (by simp) (by simp) rfl ?_ <;> (try simp [-cB, *]))
    | (with_reducible intro _))
  all_goals (first | assumption | omega | (rw [inR_i64]; omega) | (simp_all [fromB]; done) | grind [fromB] | skip)
theorem wFree_ok (t : GTables) (ht : t.wf) (n : Int) : Pure Tryz.prog 54 [.agg (t.enc.map .d), .d (.v (.int .i64 n))] (.d (.v (.bool (freeP t n)))) := by
  have hlen : t.Params.length ≤ 1000000000000000 := by have := GTables.wl_Params ht; omega
  unfold freeP
  refine Pure.run Tryz.func54 rfl (by simp [Tryz.f54]) ?_; simp [-cB, Tryz.f54]
  repeat' (first
    | (with_reducible refine And.intro ?_ ?_)
    | (refine condC_split (fun h => ?_) (fun h => ?_) <;> (try simp at h) <;> (try simp [-cB, *]))
    | (refine AOps.pureC rfl (wAmong_ok _ _ _) rfl rfl (by simp) rfl ?_ <;> (try simp [-cB, *]))
    | (refine AOps.lendC rfl (wAmong_ok _ _ _) rfl (by simp) rfl rfl (by simp) rfl ?_ <;> (try simp [-cB, *]))
    | (refine AOps.pureG rfl (fun h => wAmong_ok _ _ _) rfl (by first | rfl | (simp; rfl)) (by simp) (by simp) rfl ?_ <;> (try simp [-cB, *]))
    | (with_reducible intro _))
  all_goals (first | assumption | omega | (rw [inR_i64]; omega) | (simp_all [fromB]; done) | grind [fromB] | skip)
theorem wRoom_ok (t : GTables) (ht : t.wf) (n : Int) : Pure Tryz.prog 98 [.agg (t.enc.map .d), .d (.v (.int .i64 n))] (.d (.v (.bool (thingB t n && roomB t n)))) := by
  have hlen : t.Things.length ≤ 1000000000000000 := by have := GTables.wl_Things ht; omega
  have hq := wThing_ok t ht n
  have hin : thingB t n = true → 0 ≤ n ∧ n.toNat < t.Things.length := by unfold thingB fromB; simp; omega
  unfold roomB
  generalize thingB t n = b at *
  refine Pure.run Tryz.func98 rfl (by simp [Tryz.f98]) ?_; simp [-cB, Tryz.f98]
  repeat' (first
    | (with_reducible refine And.intro ?_ ?_)
    | (refine condC_split (fun h => ?_) (fun h => ?_) <;> (try simp at h) <;> (try simp [-cB, *]))
    | (refine AOps.pureC rfl (hq) rfl rfl (by simp) rfl ?_ <;> (try simp [-cB, *]))
    | (refine AOps.lendC rfl (hq) rfl (by simp) rfl rfl (by simp) rfl ?_ <;> (try simp [-cB, *]))
    | (refine AOps.pureG rfl (fun h => hq) rfl (by first | rfl | (simp; rfl)) (by simp) (by simp) rfl ?_ <;> (try simp [-cB, *]))
    | (with_reducible intro _))
  all_goals (first | assumption | omega | (rw [inR_i64]; omega) | (simp_all; done) | grind | skip)
theorem wWords_ok (l : List ByteArray) (hl : l.length ≤ 1000000000000000) (hs : ∀ x ∈ l, x.size ≤ 1000000000000000) (most : Int) : Pure Tryz.prog 99 [.d (.sl (encS l)), .d (.v (.int .i64 most))] (.d (.v (.bool (wordsP l most)))) := by
  have hq := allStr_ok l hl 138 [] rfl isWordB (fun x hx => wIsWord_ok x (hs x hx))
  unfold wordsP
  generalize allB isWordB l = b at *
  refine Pure.run Tryz.func99 rfl (by simp [Tryz.f99]) ?_; simp [-cB, Tryz.f99]
  repeat' (first
    | (with_reducible refine And.intro ?_ ?_)
    | (refine condC_split (fun h => ?_) (fun h => ?_) <;> (try simp at h) <;> (try simp [-cB, *]))
    | (refine AOps.pureC rfl (hq) rfl rfl (by simp) rfl ?_ <;> (try simp [-cB, *]))
    | (refine AOps.lendC rfl (hq) rfl (by simp) rfl rfl (by simp) rfl ?_ <;> (try simp [-cB, *]))
    | (refine AOps.pureG rfl (fun h => hq) rfl (by first | rfl | (simp; rfl)) (by simp) (by simp) rfl ?_ <;> (try simp [-cB, *]))
    | (with_reducible intro _))
  all_goals (first | assumption | omega | (rw [inR_i64]; omega) | (simp_all; done) | grind | skip)
theorem wNothing_ok (x : GThing) (hx : x.wf) : Pure Tryz.prog 94 [.agg (x.enc.map .d)] (.d (.v (.bool (nothingP x)))) := by
  have hx' := hx
  simp [GThing.wf] at hx'
  have hq := allInt_ok x.Props (by omega) 136 [] rfl (fun n => decide (n = 0)) (fun n _ => wZero_ok n)
  unfold nothingP
  generalize allB (fun n => decide (n = 0)) x.Props = b at *
  refine Pure.run Tryz.func94 rfl (by simp [Tryz.f94]) ?_; simp [-cB, Tryz.f94]
  repeat' (first
    | (with_reducible refine And.intro ?_ ?_)
    | (refine condC_split (fun h => ?_) (fun h => ?_) <;> (try simp at h) <;> (try simp [-cB, *]))
    | (refine AOps.pureC rfl (hq) rfl rfl (by simp) rfl ?_ <;> (try simp [-cB, *]))
    | (refine AOps.lendC rfl (hq) rfl (by simp) rfl rfl (by simp) rfl ?_ <;> (try simp [-cB, *]))
    | (refine AOps.pureG rfl (fun h => hq) rfl (by first | rfl | (simp; rfl)) (by simp) (by simp) rfl ?_ <;> (try simp [-cB, *]))
    | (with_reducible intro _))
  all_goals (first | assumption | omega | (rw [inR_i64]; omega) | (simp_all; done) | grind | skip)
  have e : decide ((x.Words.length : Int) + x.Adjs.length + x.Ways.length = 0) = (decide (x.Words = []) && decide (x.Adjs = []) && decide (x.Ways = [])) := by
    rw [Bool.eq_iff_iff]; simp only [decide_eq_true_eq, Bool.and_eq_true, ← List.length_eq_zero_iff]; omega
  rw [e]
theorem wNumbers_ok (t : GTables) (ht : t.wf) : Pure Tryz.prog 42 [.agg (t.enc.map .d)] (.d (.v (.bool (numbersP t)))) := by
  have hl1 := GTables.wl_Texts ht
  have hl2 := GTables.wl_Props ht
  have hl3 := GTables.wl_Globals ht
  have hq1 := allStr_ok t.Texts (by omega) 92 [] rfl isTextB (fun x hx => wIsText_ok x (by have := GTables.wf_Texts ht x hx; omega))
  have hq2 := allInt_ok t.Props (by omega) 86 [] rfl int16 (fun n _ => wIs_ok n)
  have hq3 := allInt_ok t.Globals (by omega) 86 [] rfl int16 (fun n _ => wIs_ok n)
  have hq4 := wText_ok t ht
  unfold numbersP
  generalize allB isTextB t.Texts = b1 at *
  generalize allB int16 t.Props = b2 at *
  generalize allB int16 t.Globals = b3 at *
  refine Pure.run Tryz.func42 rfl (by simp [Tryz.f42]) ?_; simp [-cB, Tryz.f42]
  repeat' (first
    | (with_reducible refine And.intro ?_ ?_)
    | (refine condC_split (fun h => ?_) (fun h => ?_) <;> (try simp at h) <;> (try simp [-cB, *]))
    | (refine AOps.pureC rfl (hq1) rfl rfl (by simp) rfl ?_ <;> (try simp [-cB, *]))
    | (refine AOps.pureC rfl (hq2) rfl rfl (by simp) rfl ?_ <;> (try simp [-cB, *]))
    | (refine AOps.pureC rfl (hq3) rfl rfl (by simp) rfl ?_ <;> (try simp [-cB, *]))
    | (refine AOps.pureC rfl (hq4 _) rfl rfl (by simp) rfl ?_ <;> (try simp [-cB, *]))
    | (refine AOps.pureC rfl (wAmong_ok _ _ _) rfl rfl (by simp) rfl ?_ <;> (try simp [-cB, *]))
    | (refine AOps.lendC rfl (hq1) rfl (by simp) rfl rfl (by simp) rfl ?_ <;> (try simp [-cB, *]))
    | (refine AOps.lendC rfl (hq2) rfl (by simp) rfl rfl (by simp) rfl ?_ <;> (try simp [-cB, *]))
    | (refine AOps.lendC rfl (hq3) rfl (by simp) rfl rfl (by simp) rfl ?_ <;> (try simp [-cB, *]))
    | (refine AOps.lendC rfl (hq4 _) rfl (by simp) rfl rfl (by simp) rfl ?_ <;> (try simp [-cB, *]))
    | (refine AOps.lendC rfl (wAmong_ok _ _ _) rfl (by simp) rfl rfl (by simp) rfl ?_ <;> (try simp [-cB, *]))
    | (refine AOps.pureG rfl (fun h => hq1) rfl (by first | rfl | (simp; rfl)) (by simp) (by simp) rfl ?_ <;> (try simp [-cB, *]))
    | (refine AOps.pureG rfl (fun h => hq2) rfl (by first | rfl | (simp; rfl)) (by simp) (by simp) rfl ?_ <;> (try simp [-cB, *]))
    | (refine AOps.pureG rfl (fun h => hq3) rfl (by first | rfl | (simp; rfl)) (by simp) (by simp) rfl ?_ <;> (try simp [-cB, *]))
    | (refine AOps.pureG rfl (fun h => hq4 _) rfl (by first | rfl | (simp; rfl)) (by simp) (by simp) rfl ?_ <;> (try simp [-cB, *]))
    | (refine AOps.pureG rfl (fun h => wAmong_ok _ _ _) rfl (by first | rfl | (simp; rfl)) (by simp) (by simp) rfl ?_ <;> (try simp [-cB, *]))
    | (with_reducible intro _))
  all_goals (first | assumption | omega | (rw [inR_i64]; omega) | (simp_all; done) | grind | skip)
theorem wRoutines_ok (t : GTables) (ht : t.wf) : Pure Tryz.prog 43 [.agg (t.enc.map .d)] (.d (.v (.bool (routinesP t)))) := by
  have hl1 := GTables.wl_Params ht
  have hl2 := GTables.wl_Locals ht
  by_cases hne : t.Params.length = t.Locals.length ∧ t.Params.length ≤ 2048
  · obtain ⟨h1, h2⟩ := hne
    have e : routinesP t = allB (paramB t) (List.range t.Locals.length) := by unfold routinesP; rw [h1]; simp; omega
    have h2' : ¬ (2048 : Int) < t.Locals.length := by omega
    rw [e]
    refine Pure.run Tryz.func43 rfl (by simp [Tryz.f43]) ?_; simp [-cB, Tryz.f43]
    intro bs
    simp [-cB, h1, h2']
    refine AWP.loopS [1, 19, 20, 21] t.Locals.length (fun i => [(21, .d (.v (.int .i64 i)))]) (fun _ => []) (fun i => allB (paramB t) (List.range i) = true) (by rfl) (by simp [allB]) ?_
    intro i hi hH
    rcases Nat.lt_or_eq_of_le hi with hlt | heq
    · have hp : t.Params[i]? = some t.Params[i] := List.getElem?_eq_getElem (by omega)
      have hl : t.Locals[i]? = some t.Locals[i] := List.getElem?_eq_getElem hlt
      have hsn : allB (paramB t) (List.range (i + 1)) = paramB t i := by rw [List.range_succ, allB_snoc, hH]; simp
      have hpb : paramB t i = (fromB t.Params[i] 0 8 && fromB t.Locals[i] t.Params[i] 24) := by simp [paramB, hp, hl]
      have hall : paramB t i = false → allB (paramB t) (List.range t.Locals.length) = false := by
        intro hf
        rw [Bool.eq_false_iff]
        intro ha
        have := List.all_eq_true.1 ha i (List.mem_range.2 hlt)
        rw [hf] at this; cases this
      have hlt' : (i : Int) < t.Locals.length := by omega
      have hlp : i < t.Params.length := by omega
      have h64 : inR .i64 ((i : Int) + 1) := by rw [inR_i64]; omega
      generalize hA : t.Params[i] = p at *
      generalize hB : t.Locals[i] = q at *
      rw [hpb] at hsn hall
      simp [-cB, hlt, hlt', hlp, hp, hl, hA, hB]
      have hq1 := wAmong_ok p 0 8
      have hq2 := wAmong_ok q p 24
      generalize fromB p 0 8 = x at *
      generalize fromB q p 24 = y at *
      clear hpb
      repeat' (first
        | (with_reducible refine And.intro ?_ ?_)
        | (refine condC_split (fun h => ?_) (fun h => ?_) <;> (try simp at h) <;> (try simp [-cB, *]))
        | (refine AOps.pureC rfl (hq1) rfl rfl (by simp) rfl ?_ <;> (try simp [-cB, *]))
        | (refine AOps.pureC rfl (hq2) rfl rfl (by simp) rfl ?_ <;> (try simp [-cB, *]))
        | (refine AOps.lendC rfl (hq1) rfl (by simp) rfl rfl (by simp) rfl ?_ <;> (try simp [-cB, *]))
        | (refine AOps.lendC rfl (hq2) rfl (by simp) rfl rfl (by simp) rfl ?_ <;> (try simp [-cB, *]))
        | (refine AOps.pureG rfl (fun h => hq1) rfl (by first | rfl | (simp; rfl)) (by simp) (by simp) rfl ?_ <;> (try simp [-cB, *]))
        | (refine AOps.pureG rfl (fun h => hq2) rfl (by first | rfl | (simp; rfl)) (by simp) (by simp) rfl ?_ <;> (try simp [-cB, *]))
        | (with_reducible intro _))
      exact hall (by rcases h with h | h <;> simp [h])
    · simp [heq] at hH ⊢
      simp [hH]
  · have e : routinesP t = false := by unfold routinesP; simp; omega
    rw [e]
    refine Pure.run Tryz.func43 rfl (by simp [Tryz.f43]) ?_; simp [-cB, Tryz.f43]
    intro bs
    repeat' (first
      | (with_reducible refine And.intro ?_ ?_)
      | (refine condC_split (fun h => ?_) (fun h => ?_) <;> (try simp at h) <;> (try simp [-cB, *]))
      | (with_reducible intro _))
    exact absurd ⟨by omega, by omega⟩ hne
theorem wWays_ok (t : GTables) (ht : t.wf) (l : List GWay) (hl : l.length ≤ 1000000000000000) : Pure Tryz.prog 137 [.agg (t.enc.map .d), .d (.sl (l.map GWay.enc))] (.d (.v (.bool (waysP t 0 l)))) := by
  have hq1 := wRoom_ok t ht
  have hq2 := wFree_ok t ht
  have hq3 := wText_ok t ht
  have last : ∀ (pre : List GWay) (p : Int) (r : List GWay), waysP t p (pre ++ r) = (waysP t p pre && waysP t ((pre.getLast?.map (·.Dir)).getD p) r) := by
    intro pre
    induction pre with
    | nil => intro p r; simp [waysP]
    | cons w l ih =>
      intro p r
      rw [List.cons_append, waysP, waysP, ih, Bool.and_assoc]
      congr 3
      cases hl : l.getLast? with
      | none => have : l = [] := by simpa using hl
                subst this; simp
      | some q => simp [List.getLast?_cons, hl]
  refine Pure.run Tryz.func137 rfl (by simp [Tryz.f137]) ?_; simp [-cB, Tryz.f137]
  intro bs
  refine AWP.loopL [2, 5, 8, 9, 10] l (fun pre => [(5, .d (.v (.int .i64 ((pre.getLast?.map (·.Dir)).getD 0)))), (10, .d (.v (.int .i64 pre.length)))]) (fun _ => []) (fun pre => waysP t 0 pre = true) (by rfl) (by omega) (by simp [waysP]) ?_ ?_
  · rintro pre w post hsp hH hlt hge a4
    have hall : waysP t 0 l = (wayP t ((pre.getLast?.map (·.Dir)).getD 0) w && waysP t w.Dir post) := by rw [hsp, last, hH, waysP]; simp
    have hsn : waysP t 0 (pre ++ [w]) = wayP t ((pre.getLast?.map (·.Dir)).getD 0) w := by rw [last, hH, waysP, waysP]; simp
    have hlast : ((pre ++ [w]).getLast?.map (·.Dir)).getD 0 = w.Dir := by simp
    clear hsp
    generalize (pre.getLast?.map (·.Dir)).getD 0 = p at *
    unfold wayP at hall hsn
    have h1 := hq1 w.To
    have h2 := hq2 w.When
    have h3 := hq3 w.Else
    rw [show fromB w.Else 0 (↑t.Texts.length - 1) = textI t w.Else from rfl] at hall hsn
    generalize (thingB t w.To && roomB t w.To) = x at *
    generalize freeP t w.When = y at *
    generalize textI t w.Else = z at *
    clear hq1 hq2 hq3 last
    simp [-cB, *]
    repeat' (first
      | (with_reducible refine And.intro ?_ ?_)
      | (refine condC_split (fun h => ?_) (fun h => ?_) <;> (try simp at h) <;> (try simp [-cB, *]))
      | (refine AOps.pureC rfl (h1) rfl rfl (by simp) rfl ?_ <;> (try simp [-cB, *]))
      | (refine AOps.pureC rfl (h2) rfl rfl (by simp) rfl ?_ <;> (try simp [-cB, *]))
      | (refine AOps.pureC rfl (h3) rfl rfl (by simp) rfl ?_ <;> (try simp [-cB, *]))
      | (refine AOps.lendC rfl (h1) rfl (by simp) rfl rfl (by simp) rfl ?_ <;> (try simp [-cB, *]))
      | (refine AOps.lendC rfl (h2) rfl (by simp) rfl rfl (by simp) rfl ?_ <;> (try simp [-cB, *]))
      | (refine AOps.lendC rfl (h3) rfl (by simp) rfl rfl (by simp) rfl ?_ <;> (try simp [-cB, *]))
      | (refine AOps.pureG rfl (fun h => h1) rfl (by first | rfl | (simp; rfl)) (by simp) (by simp) rfl ?_ <;> (try simp [-cB, *]))
      | (refine AOps.pureG rfl (fun h => h2) rfl (by first | rfl | (simp; rfl)) (by simp) (by simp) rfl ?_ <;> (try simp [-cB, *]))
      | (refine AOps.pureG rfl (fun h => h3) rfl (by first | rfl | (simp; rfl)) (by simp) (by simp) rfl ?_ <;> (try simp [-cB, *]))
      | (with_reducible intro _))
    all_goals first | assumption | omega | (clear h1 h2 h3 hall hsn; grind)
  · intro hH
    simp [*]
theorem wAlone_ok (t : GTables) (ht : t.wf) (hF : fromB t.Flags 4 16 = true) (x : GThing) (hx : x.wf) : Pure Tryz.prog 96 [.agg (t.enc.map .d), .agg (x.enc.map .d)] (.d (.v (.bool (aloneP t x)))) := by
  have hx' := hx
  simp [GThing.wf] at hx'
  have hf : 4 ≤ t.Flags ∧ t.Flags ≤ 16 := by unfold fromB at hF; simpa using hF
  have q1 := wText_ok t ht
  have q2 := allInt_ok x.Props (by omega) 86 [] rfl int16 (fun n _ => wIs_ok n)
  have q3 := wWords_ok x.Words (by omega) (fun y hy => by have := hx'.2.2.2.2.2.2.2.1 y hy; omega) 8
  have q4 := wWords_ok x.Adjs (by omega) (fun y hy => by have := hx'.2.2.2.2.2.2.2.2.2.1 y hy; omega) 8
  have q5 := wWays_ok t ht x.Ways (by omega)
  have q6 := wThing_ok t ht x.Parent
  unfold aloneP
  have q0 := q1 x.Title
  have q7 := q1 x.Text
  clear q1
  generalize textI t x.Title = a0 at *
  generalize textI t x.Text = a1 at *
  generalize allB int16 x.Props = a2 at *
  generalize wordsP x.Words 8 = a3 at *
  generalize wordsP x.Adjs 8 = a4 at *
  generalize waysP t 0 x.Ways = a5 at *
  generalize thingB t x.Parent = a6 at *
  refine Pure.run Tryz.func96 rfl (by simp [Tryz.f96]) ?_; simp [-cB, Tryz.f96]
  intro bs
  refine AWP.regionD [.d (.v (.bool a0)), .d (.v (.bool a1)), .d (.v (.bool a2)), .d (.v (.bool a3)), .d (.v (.bool a4))] Tryz.mixed (by kernel_rfl) (by rfl) ?_
  have hsh : IntKind.wrap .i64 (2 ^ min t.Flags.toNat IntKind.i64.bits) = bitsM t.Flags := by
    have e : min t.Flags.toNat IntKind.i64.bits = min t.Flags.toNat 16 := by show min _ 64 = _; omega
    rw [e]
    have := bitsM_le t.Flags
    exact inR_wrap (show inR .i64 (bitsM t.Flags) from by rw [inR_i64]; omega)
  have k0 := fun L => q0.ok L
  have k7 := fun L => q7.ok L
  have k2 := fun L => q2.ok L
  have k3 := fun L => q3.ok L
  have k4 := fun L => q4.ok L
  simp [-cB, hsh, k0, k7, k2, k3, k4]
  clear k0 k7 k2 k3 k4 q0 q7 q2 q3 q4
  generalize bitsM t.Flags = B at *
  have hf0 : 0 ≤ t.Flags := by omega
  cases hR : x.Room with
  | true =>
    repeat' (first
      | (with_reducible refine And.intro ?_ ?_)
      | (refine condC_split (fun h => ?_) (fun h => ?_) <;> (try simp at h) <;> (try simp [-cB, *, hR]))
      | (refine AOps.pureC rfl (q5) rfl rfl (by simp) rfl ?_ <;> (try simp [-cB, *, hR]))
      | (refine AOps.pureC rfl (q6) rfl rfl (by simp) rfl ?_ <;> (try simp [-cB, *, hR]))
      | (refine AOps.lendC rfl (q5) rfl (by simp) rfl rfl (by simp) rfl ?_ <;> (try simp [-cB, *, hR]))
      | (refine AOps.lendC rfl (q6) rfl (by simp) rfl rfl (by simp) rfl ?_ <;> (try simp [-cB, *, hR]))
      | (refine AOps.pureG rfl (fun h => q5) rfl (by first | rfl | (simp; rfl)) (by simp) (by simp) rfl ?_ <;> (try simp [-cB, *, hR]))
      | (refine AOps.pureG rfl (fun h => q6) rfl (by first | rfl | (simp; rfl)) (by simp) (by simp) rfl ?_ <;> (try simp [-cB, *, hR]))
      | (with_reducible intro _))
    all_goals clear q5 q6
    all_goals first | assumption | omega | grind | skip
  | false =>
    repeat' (first
      | (with_reducible refine And.intro ?_ ?_)
      | (refine condC_split (fun h => ?_) (fun h => ?_) <;> (try simp at h) <;> (try simp [-cB, *, hR]))
      | (refine AOps.pureC rfl (q5) rfl rfl (by simp) rfl ?_ <;> (try simp [-cB, *, hR]))
      | (refine AOps.pureC rfl (q6) rfl rfl (by simp) rfl ?_ <;> (try simp [-cB, *, hR]))
      | (refine AOps.lendC rfl (q5) rfl (by simp) rfl rfl (by simp) rfl ?_ <;> (try simp [-cB, *, hR]))
      | (refine AOps.lendC rfl (q6) rfl (by simp) rfl rfl (by simp) rfl ?_ <;> (try simp [-cB, *, hR]))
      | (refine AOps.pureG rfl (fun h => q5) rfl (by first | rfl | (simp; rfl)) (by simp) (by simp) rfl ?_ <;> (try simp [-cB, *, hR]))
      | (refine AOps.pureG rfl (fun h => q6) rfl (by first | rfl | (simp; rfl)) (by simp) (by simp) rfl ?_ <;> (try simp [-cB, *, hR]))
      | (with_reducible intro _))
    all_goals clear q5 q6
    all_goals first | assumption | omega | grind | skip
end Go.Ab

namespace Go.Ab
open Go.Proofs
set_option maxHeartbeats 4000000
set_option maxRecDepth 20000
theorem wUp_ok (t : GTables) (ht : t.wf) (n : Int) (hn : 0 ≤ n ∧ n < t.Things.length) : Pure Tryz.prog 95 [.d (.v (.int .i64 n)), .rp t.enc] (.d (.v (.int .i64 (thingAt t n).Parent))) := by
  have hget := thingAt_elem hn
  have hg := thingAt_get hn
  have hlt : n.toNat < t.Things.length := by omega
  refine Pure.run Tryz.func95 rfl (by simp [Tryz.f95]) ?_; simp [-cB, Tryz.f95]
  repeat' (first
    | (with_reducible refine And.intro ?_ ?_)
    | (refine condC_split (fun h => ?_) (fun h => ?_) <;> (try simp at h) <;> (try simp [-cB, *, hget, hg, hlt, hn]))
    | (with_reducible intro _))
  · omega
  · exact hlt
  · rw [hg]; rfl
theorem wTop_ok (t : GTables) (ht : t.wf) (hp : parentsB t) (x : Int) (hx : 0 ≤ x ∧ x < t.Things.length) : Pure Tryz.prog 97 [.clo (.func 95) [] [.rp t.enc], .d (.v (.int .i64 x)), .d (.v (.int .i64 t.Things.length))] (.d (.v (.int .i64 (topP t t.Things.length x)))) := by
  have hlen : t.Things.length ≤ 1000000000000000 := by have := GTables.wl_Things ht; omega
  refine Pure.run Tryz.func97 rfl (by simp [Tryz.f97]) ?_; simp [-cB, Tryz.f97]
  refine AWP.loopS [0, 1, 8, 9] t.Things.length (fun i => [(1, .d (.v (.int .i64 (upN t i x)))), (9, .d (.v (.int .i64 i)))]) (fun _ => []) (fun i => topP t t.Things.length x = topP t (t.Things.length - i) (upN t i x)) (by rfl) (by simp [upN]) ?_
  intro i hi hH
  have hu := upN_in hp i x hx
  rcases Nat.lt_or_eq_of_le hi with hlt | heq
  · have h64 : inR .i64 ((i : Int) + 1) := by rw [inR_i64]; omega
    have hlt' : (i : Int) < t.Things.length := by omega
    have hs := upN_succ t i x
    have hq := wUp_ok t ht (upN t i x) hu
    rw [show t.Things.length - i = (t.Things.length - (i + 1)) + 1 by omega, topP, ← hs] at hH
    rw [← hs] at hq
    obtain ⟨u, hue⟩ : ∃ u, upN t (i + 1) x = u := ⟨_, rfl⟩
    rw [hue] at hq hH
    rw [hH]
    clear hs
    simp [-cB, hlt, hlt']
    refine AOps.pureC rfl (hq) rfl rfl (by simp) rfl ?_
    simp [-cB]
    by_cases hu0 : u = 0
    · simp [hu0]
    · simp [hu0, hlt, h64, hue]
  · have hge : ¬ (i : Int) < t.Things.length := by omega
    rw [heq, Nat.sub_self, topP] at hH
    simp [-cB, heq, hH]
end Go.Ab

namespace Go.Ab
open Go.Proofs
set_option maxHeartbeats 4000000
set_option maxRecDepth 20000
def thB (t : GTables) (i : Nat) : Bool := decide ((thingAt t i).Props.length = t.Props.length) && (decide (i = 0) || aloneP t (thingAt t i))
theorem thB_all (t : GTables) (h : 0 < t.Things.length) : allB (thB t) (List.range t.Things.length) = (allB (fun x : GThing => decide (x.Props.length = t.Props.length)) t.Things && allB (aloneP t) (t.Things.drop 1)) := by
  have hat : ∀ i (hi : i < t.Things.length), thingAt t i = t.Things[i] := by
    intro i hi
    unfold thingAt
    rw [Int.toNat_natCast, List.getElem?_eq_getElem hi]; rfl
  rw [Bool.eq_iff_iff, Bool.and_eq_true]
  unfold allB
  rw [List.all_eq_true, List.all_eq_true, List.all_eq_true]
  constructor
  · intro hA
    constructor
    · intro x hx
      obtain ⟨i, hi, rfl⟩ := List.getElem_of_mem hx
      have := hA i (List.mem_range.2 hi)
      unfold thB at this
      rw [Bool.and_eq_true, hat i hi] at this
      exact this.1
    · intro x hx
      obtain ⟨i, hi, rfl⟩ := List.getElem_of_mem hx
      rw [List.length_drop] at hi
      rw [List.getElem_drop]
      have := hA (1 + i) (List.mem_range.2 (by omega))
      unfold thB at this
      rw [Bool.and_eq_true, hat (1 + i) (by omega)] at this
      simpa using this.2
  · rintro ⟨h1, h2⟩ i hi
    have hi := List.mem_range.1 hi
    unfold thB
    rw [Bool.and_eq_true, hat i hi]
    refine ⟨h1 _ (List.getElem_mem hi), ?_⟩
    by_cases h0 : i = 0
    · simp [h0]
    · have h3 : t.Things[i] ∈ t.Things.drop 1 := by
        rw [List.mem_iff_getElem]
        refine ⟨i - 1, by rw [List.length_drop]; omega, ?_⟩
        rw [List.getElem_drop]
        congr 1
        omega
      rw [h2 _ h3]; simp
theorem par_of {t : GTables} (h : 0 < t.Things.length) (h0 : nothingP (thingAt t 0) = true) (hA : allB (thB t) (List.range t.Things.length) = true) : parentsB t := by
  intro x hx
  obtain ⟨i, hi, rfl⟩ := List.getElem_of_mem hx
  have hat : thingAt t i = t.Things[i] := by
    unfold thingAt
    rw [Int.toNat_natCast, List.getElem?_eq_getElem hi]; rfl
  by_cases hi0 : i = 0
  · subst hi0
    unfold nothingP at h0
    simp only [Bool.and_eq_true, decide_eq_true_eq] at h0
    have : (thingAt t ((0 : Nat) : Int)).Parent = 0 := h0.1.1.1.1.2
    rw [← hat, this]; omega
  · have := List.all_eq_true.1 hA i (List.mem_range.2 hi)
    unfold thB at this
    rw [Bool.and_eq_true, hat] at this
    have h2 : aloneP t t.Things[i] = true := by simpa [hi0] using this.2
    have h3 : thingOk t t.Things[i] = true := by rw [← alone_eq, this.1, h2]; rfl
    unfold thingOk at h3
    simp only [Bool.and_eq_true, Bool.or_eq_true, decide_eq_true_eq] at h3
    rcases h3.1.1.1.2 with h4 | h4
    · rw [h4]; omega
    · unfold thingB fromB at h4; simp at h4; omega
theorem wThings_ok (t : GTables) (ht : t.wf) (hF : fromB t.Flags 4 16 = true) : Pure Tryz.prog 44 [.agg (t.enc.map .d)] (.d (.v (.bool (thingsP t)))) := by
  have hlen : t.Things.length ≤ 1000000000000000 := by have := GTables.wl_Things ht; omega
  have hq1 := wAmong_ok t.Things.length 3 128
  by_cases hA : ¬ fromB t.Things.length 3 128 = true
  · rw [Bool.not_eq_true] at hA
    have e : thingsP t = false := by unfold thingsP; rw [hA]; rfl
    rw [e]
    rw [hA] at hq1
    refine Pure.run Tryz.func44 rfl (by simp [Tryz.f44]) ?_; simp [-cB, Tryz.f44]
    intro bs
    refine AOps.pureC rfl (hq1) rfl rfl (by simp) rfl ?_
    simp [-cB]
    refine AOps.pureG rfl (g := false) (x := .d (.v (.bool true))) (fun h => by cases h) rfl (by first | rfl | (simp; rfl)) (by simp) (by simp) rfl ?_
    simp [-cB]
  have hA : fromB t.Things.length 3 128 = true := Classical.not_not.1 hA
  have hl3 : 3 ≤ t.Things.length := by unfold fromB at hA; simp at hA; omega
  rw [hA] at hq1
  have h0m : thingAt t 0 ∈ t.Things := thingAt_mem ⟨by omega, by omega⟩
  have hwf : ∀ x ∈ t.Things, x.wf := fun x hx => GTables.wf_Things ht x hx
  have hq2 := wNothing_ok (thingAt t 0) (hwf _ h0m)
  have hl0 : 0 < t.Things.length := by omega
  have e0 : thingAt t 0 = t.Things[0] := (thingAt_elem (t := t) (n := 0) ⟨by omega, by omega⟩).symm
  rw [e0] at hq2
  cases hN : nothingP t.Things[0] with
  | false =>
    have e : thingsP t = false := by unfold thingsP; rw [hA, e0, hN]; rfl
    rw [e]
    rw [hN] at hq2
    refine Pure.run Tryz.func44 rfl (by simp [Tryz.f44]) ?_; simp [-cB, Tryz.f44]
    intro bs
    refine AOps.pureC rfl (hq1) rfl rfl (by simp) rfl ?_
    simp [-cB, hl0]
    refine AOps.pureG rfl (fun _ => hq2) rfl (by first | rfl | (simp; rfl)) (by simp) (by simp) rfl ?_
    simp [-cB, hl0]
  | true =>
    have e : thingsP t = (allB (thB t) (List.range t.Things.length) && allB (fun i : Nat => decide (topP t t.Things.length ((i : Int) + 1) ≠ 0)) (List.range (t.Things.length - 1)) && (!(thingAt t 1).Room && (thingB t (topP t t.Things.length 1) && roomB t (topP t t.Things.length 1)))) := by
      unfold thingsP; rw [hA, e0, hN, thB_all t hl0]; simp only [Bool.true_and]
    rw [e]
    rw [hN] at hq2
    refine Pure.run Tryz.func44 rfl (by simp [Tryz.f44]) ?_; simp [-cB, Tryz.f44]
    intro bs
    refine AOps.pureC rfl (hq1) rfl rfl (by simp) rfl ?_
    simp [-cB, hl0]
    refine AOps.pureG rfl (fun _ => hq2) rfl (by first | rfl | (simp; rfl)) (by simp) (by simp) rfl ?_
    simp [-cB, hl0]
    refine AWP.weaken (Wk.freezeB 1 (ds := t.enc) rfl) ?_
    simp
    have hqa : ∀ i (hi : i < t.Things.length), Pure Tryz.prog 96 [.agg (t.enc.map .d), .agg (t.Things[i].enc.map .d)] (.d (.v (.bool (aloneP t t.Things[i])))) := fun i hi => wAlone_ok t ht hF _ (hwf _ (List.getElem_mem hi))
    have hat : ∀ i (hi : i < t.Things.length), thingAt t i = t.Things[i] := by
      intro i hi
      unfold thingAt
      rw [Int.toNat_natCast, List.getElem?_eq_getElem hi]; rfl
    refine AWP.loopS [1, 3, 22, 23, 24] t.Things.length (fun i => [(24, .d (.v (.int .i64 i)))]) (fun _ => []) (fun i => allB (thB t) (List.range i) = true) (by rfl) (by simp [allB]) ?_
    intro i hi hH
    rcases Nat.lt_or_eq_of_le hi with hlt | heq
    · have hge : t.Things[i]? = some t.Things[i] := List.getElem?_eq_getElem hlt
      have hsn : allB (thB t) (List.range (i + 1)) = thB t i := by rw [List.range_succ, allB_snoc, hH]; simp
      have hall : thB t i = false → allB (thB t) (List.range t.Things.length) = false := by
        intro hf
        rw [Bool.eq_false_iff]
        intro ha
        have := List.all_eq_true.1 ha i (List.mem_range.2 hlt)
        rw [hf] at this; cases this
      have hth : thB t i = (decide (t.Things[i].Props.length = t.Props.length) && (decide (i = 0) || aloneP t t.Things[i])) := by unfold thB; rw [hat i hlt]
      have hq := hqa i hlt
      have hlt' : (i : Int) < t.Things.length := by omega
      have h64 : inR .i64 ((i : Int) + 1) := by rw [inR_i64]; omega
      rw [hth] at hsn hall
      generalize hx : t.Things[i] = x at *
      generalize aloneP t x = a at *
      simp [-cB, hlt, hlt', hge, hx]
      intro bs1
      refine AOps.pureG rfl (fun _ => hq) rfl (by first | rfl | (simp; rfl)) (by simp) (by simp) rfl ?_
      simp [-cB]
      by_cases hpl : x.Props.length = t.Props.length
      · by_cases hi0 : i = 0
        · simp [hpl, hi0] at hsn ⊢
          exact ⟨by rw [inR_i64]; omega, hl0, hsn⟩
        · have hi1 : 0 < i := by omega
          cases a with
          | false => simp [hpl, hi0, hi1, hall]
          | true =>
            simp [hpl, hi0, hi1] at hsn ⊢
            exact ⟨h64, hlt, hsn⟩
      · have hpl' : ¬ (x.Props.length : Int) = t.Props.length := by omega
        simp [hpl, hpl', hall]
    · rw [heq] at hH
      have hp := par_of hl0 (by rw [e0]; exact hN) hH
      have hge : ¬ (i : Int) < t.Things.length := by omega
      clear hqa hat hq1 hq2 e
      simp [-cB, heq, hH]
      have hdec : ∀ k : Nat, allB (fun i : Nat => !decide (topP t t.Things.length ((i : Int) + 1) = 0)) (List.range (k + 1)) = (allB (fun i : Nat => !decide (topP t t.Things.length ((i : Int) + 1) = 0)) (List.range k) && !decide (topP t t.Things.length ((k : Int) + 1) = 0)) := fun k => by rw [List.range_succ, allB_snoc]
      refine AWP.loopS [1, 3, 6] (t.Things.length - 1) (fun i => [(6, .d (.v (.int .i64 ((i : Int) + 1))))]) (fun _ => []) (fun i => allB (fun i : Nat => !decide (topP t t.Things.length ((i : Int) + 1) = 0)) (List.range i) = true) (by rfl) (by simp [allB]) ?_
      intro j hj hJ
      rcases Nat.lt_or_eq_of_le hj with hlt | heq2
      · have hq := wTop_ok t ht hp ((j : Int) + 1) (by omega)
        have hlt' : (j : Int) + 1 < t.Things.length := by omega
        have h64 : inR .i64 ((j : Int) + 1 + 1) := by rw [inR_i64]; omega
        have hsn := hdec j
        rw [hJ] at hsn
        have hall : topP t t.Things.length ((j : Int) + 1) = 0 → allB (fun i : Nat => !decide (topP t t.Things.length ((i : Int) + 1) = 0)) (List.range (t.Things.length - 1)) = false := by
          intro hf
          rw [Bool.eq_false_iff]
          intro ha
          have := List.all_eq_true.1 ha j (List.mem_range.2 hlt)
          rw [hf] at this; simp at this
        simp [-cB, hlt, hlt']
        refine AOps.pureC rfl (hq) rfl rfl (by simp) rfl ?_
        simp [-cB]
        by_cases h0 : topP t t.Things.length ((j : Int) + 1) = 0
        · simp [h0, hall h0]
        · simp [h0] at hsn ⊢
          simp [h64, hlt, hsn]
      · rw [heq2] at hJ
        have hge2 : ¬ (j : Int) + 1 < t.Things.length := by omega
        simp [-cB, hge2]
        rw [hJ]
        have hl1 : 1 < t.Things.length := by omega
        have e1 : t.Things[1]? = some (thingAt t 1) := thingAt_get (t := t) (n := 1) (by omega)
        have hq := wTop_ok t ht hp 1 (by omega)
        have hq3 := wRoom_ok t ht (topP t t.Things.length 1)
        generalize (thingB t (topP t t.Things.length 1) && roomB t (topP t t.Things.length 1)) = rr at *
        generalize topP t t.Things.length 1 = tp at *
        refine AWP.regionD [.d (.v (.int .i64 tp)), .d (.v (.bool rr))] Tryz.mixed (by kernel_rfl) (by rfl) ?_
        have k1 := fun L => hq.ok L
        have k2 := fun L => hq3.ok L
        have e2 : t.Things[1] = thingAt t 1 := by rw [List.getElem?_eq_getElem hl1] at e1; exact Option.some.inj e1
        simp [-cB, hl1, e1, e2, k1, k2]
end Go.Ab

namespace Go.Ab
open Go.Proofs
set_option maxHeartbeats 4000000
set_option maxRecDepth 20000
def cntN (l : List GSlot) : Int := (l.countP nounB : Nat)
def cntM (l : List GSlot) : Int := (l.countP (fun s => decide (s.Kind = 4)) : Nat)
def cntD (l : List GSlot) : Int := (l.countP (fun s => decide (s.Kind = 5)) : Nat)
theorem slotsP_snoc (x : GSlot) : ∀ (b : Bool) (l : List GSlot), slotsP b (l ++ [x]) = (slotsP b l && slotP (b && decide (l.length = 0)) x)
  | b, [] => by simp [slotsP]
  | b, s :: l => by
    rw [List.cons_append, slotsP, slotsP, slotsP_snoc x false l, Bool.and_assoc]
    simp
theorem slotsP_app (r : List GSlot) : ∀ (b : Bool) (l : List GSlot), slotsP b (l ++ r) = true → slotsP b l = true
  | b, [], _ => rfl
  | b, s :: l, h => by
    rw [List.cons_append, slotsP, Bool.and_eq_true] at h
    rw [slotsP, h.1, slotsP_app r false l h.2]; rfl
theorem wLine_ok (l : List GSlot) (hl : l.length ≤ 1000000000000000) (hw : ∀ x ∈ l, x.wf) : Pure Tryz.prog 51 [.d (.sl (l.map GSlot.enc))] (.d (.v (.bool (lineP l)))) := by
  have hq1 := wAmong_ok l.length 1 8
  have e : lineP l = (slotsP true l && (fromB l.length 1 8 && decide (cntN l ≤ 2) && decide (cntM l ≤ 1) && decide (cntD l ≤ 1))) := rfl
  rw [e]
  generalize fromB l.length 1 8 = fr at *
  refine Pure.run Tryz.func51 rfl (by simp [Tryz.f51]) ?_; simp [-cB, Tryz.f51]
  refine AWP.loopL [0, 3, 4, 5, 8, 9, 10] l (fun pre => [(3, .d (.v (.int .i64 (cntN pre)))), (4, .d (.v (.int .i64 (cntM pre)))), (5, .d (.v (.int .i64 (cntD pre)))), (10, .d (.v (.int .i64 pre.length)))]) (fun _ => []) (fun pre => slotsP true pre = true) (by rfl) (by omega) (by simp [slotsP, cntN, cntM, cntD]) ?_ ?_
  · rintro pre x post hsp hH hlt hge a4
    have hxw := hw x (by rw [hsp]; simp)
    have hx' := hxw
    simp [GSlot.wf] at hx'
    have hq2 := wWords_ok x.Words (by omega) (fun y hy => by have := hx'.2.2 y hy; omega) 4
    have hsn : slotsP true (pre ++ [x]) = slotP (decide (pre.length = 0)) x := by rw [slotsP_snoc, hH]; simp
    have hfail : slotP (decide (pre.length = 0)) x = false → slotsP true l = false := by
      intro hf
      rw [Bool.eq_false_iff]
      intro ha
      rw [hsp, show pre ++ x :: post = (pre ++ [x]) ++ post by simp] at ha
      have := slotsP_app post true _ ha
      rw [hsn, hf] at this; cases this
    have c1 : cntN (pre ++ [x]) = cntN pre + (if nounB x then 1 else 0) := by unfold cntN; rw [List.countP_append]; simp [List.countP_cons]; split <;> simp
    have c2 : cntM (pre ++ [x]) = cntM pre + (if x.Kind = 4 then 1 else 0) := by unfold cntM; rw [List.countP_append]; simp [List.countP_cons]; split <;> simp
    have c3 : cntD (pre ++ [x]) = cntD pre + (if x.Kind = 5 then 1 else 0) := by unfold cntD; rw [List.countP_append]; simp [List.countP_cons]; split <;> simp
    have b1 : 0 ≤ cntN pre ∧ cntN pre ≤ pre.length := by unfold cntN; have := List.countP_le_length (p := nounB) (l := pre); omega
    have b2 : 0 ≤ cntM pre ∧ cntM pre ≤ pre.length := by unfold cntM; have := List.countP_le_length (p := fun s : GSlot => decide (s.Kind = 4)) (l := pre); omega
    have b3 : 0 ≤ cntD pre ∧ cntD pre ≤ pre.length := by unfold cntD; have := List.countP_le_length (p := fun s : GSlot => decide (s.Kind = 5)) (l := pre); omega
    have i1 : inR .i64 (cntN pre + 1) := by rw [inR_i64]; omega
    have i2 : inR .i64 (cntM pre + 1) := by rw [inR_i64]; omega
    have i3 : inR .i64 (cntD pre + 1) := by rw [inR_i64]; omega
    unfold slotP at hsn hfail
    unfold nounB at c1
    generalize wordsP x.Words 4 = ww at *
    clear hsp e hq1 hw
    by_cases k1 : x.Kind = 1
    · have d1 : cntN (pre ++ [x]) = cntN pre := by rw [c1]; simp [k1]
      have d2 : cntM (pre ++ [x]) = cntM pre := by rw [c2]; simp [k1]
      have d3 : cntD (pre ++ [x]) = cntD pre := by rw [c3]; simp [k1]
      clear c1 c2 c3 i1 i2 i3 b1 b2 b3
      simp [-cB, k1, hlt, hge, a4, fromB] at hsn hfail ⊢
      intro bs
      refine AOps.pureG rfl (fun _ => hq2) rfl (by first | rfl | (simp; rfl)) (by simp) (by simp) rfl ?_
      simp [-cB]
      by_cases hW : x.Words = []
      · simp [hW] at hfail ⊢
        simp [hfail]
      · cases ww with
        | false =>
          simp [hW] at hfail ⊢
          simp [hfail]
        | true =>
          simp [hW] at hsn ⊢
          simp [a4, hlt, hsn, d1, d2, d3]
    · by_cases k2 : x.Kind = 2 ∨ x.Kind = 3 ∨ x.Kind = 4 ∨ x.Kind = 5
      · have hz : x.Words.length = 0 ↔ x.Words = [] := List.length_eq_zero_iff
        rcases k2 with k | k | k | k
        all_goals
          simp [-cB, k, hlt, hge, a4, fromB, i1, i2, i3] at hsn hfail c1 c2 c3 ⊢
          intro bs
          by_cases hW : x.Words = [] <;> by_cases hp : pre = [] <;> (try simp [hW, hp] at hsn) <;> (try simp [hW, hp] at hfail) <;> (try simp [hW, hp])
          all_goals first | done | (simp [hfail]; done) | exact ⟨a4, ⟨c1.symm, c2.symm, c3.symm⟩, hsn⟩ | (simp_all; done) | skip
      · have hk : fromB x.Kind 2 5 = false := by unfold fromB; rw [Bool.eq_false_iff]; simp; omega
        simp only [not_or] at k2
        simp [-cB, k1, k2, hlt, hge, hk] at hfail ⊢
        intro h; rw [hfail] at h; cases h
  · intro hH
    simp [-cB, hH]
    repeat' (first
      | (with_reducible refine And.intro ?_ ?_)
      | (refine condC_split (fun h => ?_) (fun h => ?_) <;> (try simp at h) <;> (try simp [-cB, *, hH]))
      | (refine AOps.pureC rfl (hq1) rfl rfl (by simp) rfl ?_ <;> (try simp [-cB, *, hH]))
      | (refine AOps.lendC rfl (hq1) rfl (by simp) rfl rfl (by simp) rfl ?_ <;> (try simp [-cB, *, hH]))
      | (refine AOps.pureG rfl (fun h => hq1) rfl (by first | rfl | (simp; rfl)) (by simp) (by simp) rfl ?_ <;> (try simp [-cB, *, hH]))
      | (with_reducible intro _))
end Go.Ab

namespace Go.Ab
open Go.Proofs
set_option maxHeartbeats 4000000
set_option maxRecDepth 20000
theorem wF1_ok (t : GTables) (ht : t.wf) (n : Int) : Pure Tryz.prog 45 [.d (.v (.int .i64 n)), .rp t.enc] (.d (.v (.bool (nounP t n)))) := by
  have hq := wThing_ok t ht n
  have he : (t.enc.take 15).length = 15 := rfl
  unfold nounP
  generalize thingB t n = b at *
  refine Pure.run Tryz.func45 rfl (by simp [Tryz.f45]) ?_; simp [-cB, Tryz.f45]
  repeat' (first
    | (with_reducible refine And.intro ?_ ?_)
    | (refine condC_split (fun h => ?_) (fun h => ?_) <;> (try simp at h) <;> (try simp [-cB, *]))
    | (refine AOps.pureC rfl (hq) rfl rfl (by simp) rfl ?_ <;> (try simp [-cB, *]))
    | (refine AOps.lendC rfl (hq) rfl (by simp) rfl rfl (by simp) rfl ?_ <;> (try simp [-cB, *]))
    | (refine AOps.pureG rfl (fun h => hq) rfl (by first | rfl | (simp; rfl)) (by simp) (by simp) rfl ?_ <;> (try simp [-cB, *]))
    | (with_reducible intro _))
theorem wF2_ok (a : GAct) (ha : a.wf) : Pure Tryz.prog 48 [.agg (a.enc.map .d)] (.d (.v (.bool (actP a)))) := by
  have ha' := ha
  simp [GAct.wf] at ha'
  have hq1 := wAmong_ok a.Lines.length 1 8
  have hq2 := allLine_ok a.Lines (by omega) 51 [] rfl lineP (fun l hl => wLine_ok l (by have := (ha'.2 l hl).1; omega) (fun x hx => (ha'.2 l hl).2 x hx))
  unfold actP
  generalize allB lineP a.Lines = b at *
  generalize fromB a.Lines.length 1 8 = c at *
  refine Pure.run Tryz.func48 rfl (by simp [Tryz.f48]) ?_; simp [-cB, Tryz.f48]
  repeat' (first
    | (with_reducible refine And.intro ?_ ?_)
    | (refine condC_split (fun h => ?_) (fun h => ?_) <;> (try simp at h) <;> (try simp [-cB, *]))
    | (refine AOps.pureC rfl (hq1) rfl rfl (by simp) rfl ?_ <;> (try simp [-cB, *]))
    | (refine AOps.pureC rfl (hq2) rfl rfl (by simp) rfl ?_ <;> (try simp [-cB, *]))
    | (refine AOps.lendC rfl (hq1) rfl (by simp) rfl rfl (by simp) rfl ?_ <;> (try simp [-cB, *]))
    | (refine AOps.lendC rfl (hq2) rfl (by simp) rfl rfl (by simp) rfl ?_ <;> (try simp [-cB, *]))
    | (refine AOps.pureG rfl (fun h => hq1) rfl (by first | rfl | (simp; rfl)) (by simp) (by simp) rfl ?_ <;> (try simp [-cB, *]))
    | (refine AOps.pureG rfl (fun h => hq2) rfl (by first | rfl | (simp; rfl)) (by simp) (by simp) rfl ?_ <;> (try simp [-cB, *]))
    | (with_reducible intro _))
  all_goals (first | assumption | omega | (rw [inR_i64]; omega) | (simp_all; done) | grind | skip)
theorem wF4_ok (t : GTables) (ht : t.wf) (n : Int) : Pure Tryz.prog 56 [.d (.v (.int .i64 n)), .rp t.enc] (.d (.v (.bool (fromB n 0 (t.Params.length - 1))))) := by
  have hl := GTables.wl_Params ht
  have hq := wAmong_ok n 0 (t.Params.length - 1)
  have h64 : inR .i64 ((t.Params.length : Int) - 1) := by rw [inR_i64]; omega
  refine Pure.run Tryz.func56 rfl (by simp [Tryz.f56]) ?_; simp [-cB, Tryz.f56]
  repeat' (first
    | (with_reducible refine And.intro ?_ ?_)
    | (refine condC_split (fun h => ?_) (fun h => ?_) <;> (try simp at h) <;> (try simp [-cB, *, h64]))
    | (refine AOps.pureC rfl (hq) rfl rfl (by simp) rfl ?_ <;> (try simp [-cB, *, h64]))
    | (refine AOps.lendC rfl (hq) rfl (by simp) rfl rfl (by simp) rfl ?_ <;> (try simp [-cB, *, h64]))
    | (refine AOps.pureG rfl (fun h => hq) rfl (by first | rfl | (simp; rfl)) (by simp) (by simp) rfl ?_ <;> (try simp [-cB, *, h64]))
    | (with_reducible intro _))
  exact h64
theorem wF5_ok (t : GTables) (ht : t.wf) (n : Int) : Pure Tryz.prog 57 [.d (.v (.int .i64 n)), .rp t.enc] (.d (.v (.bool (freeP t n)))) := by
  have hq := wFree_ok t ht n
  refine Pure.run Tryz.func57 rfl (by simp [Tryz.f57]) ?_; simp [-cB, Tryz.f57]
  repeat' (first
    | (with_reducible refine And.intro ?_ ?_)
    | (refine condC_split (fun h => ?_) (fun h => ?_) <;> (try simp at h) <;> (try simp [-cB, *]))
    | (refine AOps.pureC rfl (hq) rfl rfl (by simp) rfl ?_ <;> (try simp [-cB, *]))
    | (refine AOps.lendC rfl (hq) rfl (by simp) rfl rfl (by simp) rfl ?_ <;> (try simp [-cB, *]))
    | (refine AOps.pureG rfl (fun h => hq) rfl (by first | rfl | (simp; rfl)) (by simp) (by simp) rfl ?_ <;> (try simp [-cB, *]))
    | (with_reducible intro _))
def nbL (b : Nat) (t : GTables) : Heap := [(5501, .box (b + 1) 85 [.clo (.func 45) [] [.rp t.enc]])]
theorem wF3_ok (b : Nat) (t : GTables) (ht : t.wf) (d : GDeed) (hd : d.wf) : ACalls Tryz.prog 53 [.agg (d.enc.map .d), .rp t.enc, .bp 5501 0] (nbL b t) (fun r L => r = .ret (.d (.v (.bool (deedP t d)))) ∧ L = nbL b t) := by
  have hl := GTables.wl_Acts ht
  have h64 : inR .i64 ((t.Acts.length : Int) - 1) := by rw [inR_i64]; omega
  have hq1 := wAmong_ok d.Verb 0 (t.Acts.length - 1)
  have hq2 := wAmong_ok d.Phase 1 3
  have hq3 := wF1_ok t ht d.Noun
  have hq4 := wF1_ok t ht d.Second
  have hq5 := wFree_ok t ht d.When
  have hq6 := wFree_ok t ht d.Body
  unfold deedP nbL
  generalize nounP t d.Noun = n1 at *
  generalize nounP t d.Second = n2 at *
  generalize freeP t d.When = f1 at *
  generalize freeP t d.Body = f2 at *
  refine ACalls.runX [4] [5501] Tryz.func53 rfl (by simp [Tryz.f53]) ?_; simp [-cB, Tryz.f53]
  generalize fromB d.Verb 0 (t.Acts.length - 1) = c1 at *
  generalize fromB d.Phase 1 3 = c2 at *
  repeat' (first
    | (with_reducible refine And.intro ?_ ?_)
    | (refine condC_split (fun h => ?_) (fun h => ?_) <;> (try simp at h) <;> (try simp [-cB, *, h64]))
    | (refine AOps.pureC rfl (hq1) rfl rfl (by simp) rfl ?_ <;> (try simp [-cB, *, h64]))
    | (refine AOps.pureC rfl (hq2) rfl rfl (by simp) rfl ?_ <;> (try simp [-cB, *, h64]))
    | (refine AOps.pureC rfl (hq3) rfl rfl (by simp) rfl ?_ <;> (try simp [-cB, *, h64]))
    | (refine AOps.pureC rfl (hq4) rfl rfl (by simp) rfl ?_ <;> (try simp [-cB, *, h64]))
    | (refine AOps.pureC rfl (hq5) rfl rfl (by simp) rfl ?_ <;> (try simp [-cB, *, h64]))
    | (refine AOps.pureC rfl (hq6) rfl rfl (by simp) rfl ?_ <;> (try simp [-cB, *, h64]))
    | (refine AOps.lendC rfl (hq1) rfl (by simp) rfl rfl (by simp) rfl ?_ <;> (try simp [-cB, *, h64]))
    | (refine AOps.lendC rfl (hq2) rfl (by simp) rfl rfl (by simp) rfl ?_ <;> (try simp [-cB, *, h64]))
    | (refine AOps.lendC rfl (hq3) rfl (by simp) rfl rfl (by simp) rfl ?_ <;> (try simp [-cB, *, h64]))
    | (refine AOps.lendC rfl (hq4) rfl (by simp) rfl rfl (by simp) rfl ?_ <;> (try simp [-cB, *, h64]))
    | (refine AOps.lendC rfl (hq5) rfl (by simp) rfl rfl (by simp) rfl ?_ <;> (try simp [-cB, *, h64]))
    | (refine AOps.lendC rfl (hq6) rfl (by simp) rfl rfl (by simp) rfl ?_ <;> (try simp [-cB, *, h64]))
    | (refine AOps.pureG rfl (fun h => hq1) rfl (by first | rfl | (simp; rfl)) (by simp) (by simp) rfl ?_ <;> (try simp [-cB, *, h64]))
    | (refine AOps.pureG rfl (fun h => hq2) rfl (by first | rfl | (simp; rfl)) (by simp) (by simp) rfl ?_ <;> (try simp [-cB, *, h64]))
    | (refine AOps.pureG rfl (fun h => hq3) rfl (by first | rfl | (simp; rfl)) (by simp) (by simp) rfl ?_ <;> (try simp [-cB, *, h64]))
    | (refine AOps.pureG rfl (fun h => hq4) rfl (by first | rfl | (simp; rfl)) (by simp) (by simp) rfl ?_ <;> (try simp [-cB, *, h64]))
    | (refine AOps.pureG rfl (fun h => hq5) rfl (by first | rfl | (simp; rfl)) (by simp) (by simp) rfl ?_ <;> (try simp [-cB, *, h64]))
    | (refine AOps.pureG rfl (fun h => hq6) rfl (by first | rfl | (simp; rfl)) (by simp) (by simp) rfl ?_ <;> (try simp [-cB, *, h64]))
    | (with_reducible intro _))
  all_goals clear hq1 hq2 hq3 hq4 hq5 hq6
  all_goals first | assumption | omega | grind | skip
theorem allDeedL_ok (b : Nat) (t : GTables) (ht : t.wf) (l : List GDeed) (hl : l.length ≤ 1000000000000000) (hw : ∀ d ∈ l, d.wf) :
    ACalls Tryz.prog 52 [.d (.sl (l.map GDeed.enc)), .clo (.func 53) [] [.rp t.enc, .bp 5501 0]] (nbL b t) (fun r L => r = .ret (.d (.v (.bool (allB (deedP t) l)))) ∧ L = nbL b t) := by
  unfold nbL
  refine ACalls.runX [4] [5501] Tryz.func52 rfl (by simp [Tryz.f52]) ?_; simp [-cB, Tryz.f52]
  refine AWP.loopL [1, 7, 8, 9] l (fun pre => [(9, .d (.v (.int .i64 pre.length)))]) (fun _ => []) (fun pre => allB (deedP t) pre = true) (by rfl) (by omega) (by simp [allB_nil]) ?_ ?_
  · rintro pre x post hsp hH hlt hge a4
    have hall := allB_split hsp hH
    have hsn : allB (deedP t) (pre ++ [x]) = deedP t x := by simp [allB_snoc, hH]
    have hq := wF3_ok b t ht x (hw x (by rw [hsp]; simp))
    unfold nbL at hq
    clear hsp hw
    generalize deedP t x = dx at *
    simp [-cB, *]
    intro bs
    refine AOps.effD [5501] rfl (hq) (by simp) rfl (by simp) rfl (by kernel_rfl) (by first | rfl | simp) (by simp) (by simp) (by simp) (by simp) ?_
    simp [-cB]
    cases dx with
    | false => simp [hall]
    | true => simp [hsn, hlt, a4]
  · intro hH
    simp [*]
end Go.Ab

namespace Go.Ab
open Go.Proofs
set_option maxHeartbeats 4000000
set_option maxRecDepth 20000
theorem wFits_ok (t : GTables) (ht : t.wf) : Pure Tryz.prog 25 [.agg (t.enc.map .d)] (.d (.v (.bool (fitsP t)))) := by
  have l1 := GTables.wl_Acts ht
  have l2 := GTables.wl_Deeds ht
  have l3 := GTables.wl_Funcs ht
  have l4 := GTables.wl_Daemons ht
  have hqN := wNumbers_ok t ht
  have hqR := wRoutines_ok t ht
  have hT : numbersP t = true → Pure Tryz.prog 44 [.agg (t.enc.map .d)] (.d (.v (.bool (thingsP t)))) := fun h => wThings_ok t ht (by
    unfold numbersP at h; simp only [Bool.and_eq_true] at h; exact h.1.1.1.1.2)
  have hqA := allAct_ok t.Acts (by omega) 48 [] rfl actP (fun a ha => wF2_ok a (GTables.wf_Acts ht a ha))
  have hqD := fun b => allDeedL_ok b t ht t.Deeds (by omega) (fun d hd => GTables.wf_Deeds ht d hd)
  have hqF := allInt_ok t.Funcs (by omega) 56 [.rp t.enc] rfl (fun n => fromB n 0 (t.Params.length - 1)) (fun n _ => wF4_ok t ht n)
  have hqM := allInt_ok t.Daemons (by omega) 57 [.rp t.enc] rfl (freeP t) (fun n _ => wF5_ok t ht n)
  unfold fitsP
  generalize allB actP t.Acts = aA at *
  generalize allB (deedP t) t.Deeds = aD at *
  generalize allB (fun n => fromB n 0 (t.Params.length - 1)) t.Funcs = aF at *
  generalize allB (freeP t) t.Daemons = aM at *
  generalize numbersP t = nP at *
  generalize routinesP t = rP at *
  generalize thingsP t = tP at *
  refine Pure.run Tryz.func25 rfl (by simp [Tryz.f25]) ?_; simp [-cB, Tryz.f25]
  intro bs
  refine AOps.pureC rfl (hqN) rfl rfl (by simp) rfl ?_
  simp [-cB]
  refine AOps.pureG rfl (fun _ => hqR) rfl (by first | rfl | (simp; rfl)) (by simp) (by simp) rfl ?_
  simp [-cB]
  cases nP with
  | false =>
    refine AOps.pureG rfl (g := false) (x := .d (.v (.bool true))) (fun h => by cases h) rfl (by first | rfl | (simp; rfl)) (by simp) (by simp) rfl ?_
    simp [-cB]
  | true =>
    have hqT := hT rfl
    refine AOps.pureG rfl (fun _ => hqT) rfl (by first | rfl | (simp; rfl)) (by simp) (by simp) rfl ?_
    simp [-cB]
    refine condC_split (fun h => ?_) (fun h => ?_)
    · simp at h
      simp
      grind
    · simp at h
      simp [-cB]
      intro bs1
      refine AOps.weaken (Wk.freezeB 1 (ds := t.enc) rfl) ?_
      simp [-cB]
      refine AOps.weaken (Wk.ren 3 5501 (by simp)) ?_
      simp [-cB]
      refine AOps.pureC rfl (hqA) rfl rfl (by simp) rfl ?_
      simp [-cB]
      unfold nbL at hqD
      refine AOps.effD [5501] rfl ((hqD _)) (by simp) rfl (by simp) rfl (by kernel_rfl) (by first | rfl | simp) (by simp) (by simp) (by simp) (by simp) ?_
      simp [-cB]
      refine AOps.pureG rfl (fun _ => hqF) rfl (by first | rfl | (simp; rfl)) (by simp) (by simp) rfl ?_
      simp [-cB]
      refine AOps.pureG rfl (fun _ => hqM) rfl (by first | rfl | (simp; rfl)) (by simp) (by simp) rfl ?_
      simp [-cB]
      all_goals first | done | grind
end Go.Ab

namespace Go.Ab
open Go.Proofs
set_option maxRecDepth 4000
structure HasE where
  op : Bool
  num : Bool
  name : Bool
  least : Int
  most : Int
def hasE (k : Int) : Option HasE :=
  if k = 1 ∨ k = 14 ∨ k = 15 ∨ k = 19 then some ⟨false, true, false, 0, 0⟩
  else if k = 2 ∨ k = 3 then some ⟨false, false, true, 0, 0⟩
  else if k = 4 ∨ k = 5 ∨ k = 11 ∨ k = 13 then some ⟨false, false, false, 1, 1⟩
  else if k = 6 then some ⟨true, false, false, 2, 2⟩
  else if k = 7 ∨ k = 8 then some ⟨false, false, true, 1, 1⟩
  else if k = 16 ∨ k = 17 then some ⟨false, true, false, 1, 1⟩
  else if k = 9 then some ⟨false, false, true, 0, 8⟩
  else if k = 18 then some ⟨false, true, false, 0, 8⟩
  else if k = 10 then some ⟨true, false, false, 1, 1⟩
  else if k = 12 then some ⟨true, false, false, 0, 0⟩
  else none
def opE (e : GExpr) : Bool := if e.Kind = 6 then amongM e.Op 1 14 else if e.Kind = 10 then amongM e.Op 1 3 else if e.Kind = 12 then amongM e.Op 1 6 else true
def shapedE (e : GExpr) : Bool := match hasE e.Kind with
  | some h => (h.op || decide (e.Op = 0)) && (h.num || decide (e.Num = 0)) && (h.name || e.Name.toList.isEmpty) && (decide (h.least ≤ e.Args.length) && decide ((e.Args.length : Int) ≤ h.most)) && opE e
  | none => false
def belowE (n most : Int) : Bool := decide (0 ≤ n) && decide (n < most)
def saidE (k : Int) : Bool := decide (k = 2) || decide (k = 13) || decide (k = 19)
def okE (t : GTables) (e : GExpr) (locals : Int) : Bool :=
  if e.Kind = 2 ∨ e.Kind = 3 ∨ e.Kind = 7 ∨ e.Kind = 8 ∨ e.Kind = 9 then false
  else if e.Kind = 1 then isM e.Num
  else if e.Kind = 14 then belowE e.Num t.Globals.length
  else if e.Kind = 15 then belowE e.Num locals
  else if e.Kind = 16 then belowE e.Num t.Flags
  else if e.Kind = 17 then belowE e.Num t.Props.length
  else if e.Kind = 19 then belowE e.Num t.Texts.length
  else if e.Kind = 18 then belowE e.Num t.Funcs.length && (belowE (t.Funcs[e.Num.toNat]?.getD 0) t.Params.length && decide (t.Params[(t.Funcs[e.Num.toNat]?.getD 0).toNat]?.getD 0 = e.Args.length))
  else true
theorem below_among (n m : Int) : belowE n m = amongM n 0 (m - 1) := by
  unfold belowE amongM; congr 1; simp; omega
theorem head_one (t : GTables) (hP : ∀ p ∈ t.Params, p ≤ 8) (e : GExpr) (locals : Int) (said : Bool) : boundK t e locals said = ((said || !saidE e.Kind) && (shapedE e && okE t e locals)) := by
  obtain ⟨k, o, n, s, l⟩ := e
  simp only [boundK, shapedE, okE, hasE, saidE, opE, bareM]
  by_cases h1 : k = 1
  · subst h1; simp [Bool.and_assoc, Bool.and_comm, Bool.and_left_comm]
  by_cases h14 : k = 14
  · subst h14; simp [below_among, Bool.and_assoc, Bool.and_comm, Bool.and_left_comm]
  by_cases h15 : k = 15
  · subst h15; simp [belowE, Bool.and_assoc, Bool.and_comm, Bool.and_left_comm]
  by_cases h19 : k = 19
  · subst h19; simp [below_among, Bool.and_assoc, Bool.and_comm, Bool.and_left_comm]
  by_cases h4 : k = 4 ∨ k = 5 ∨ k = 11
  · rcases h4 with rfl | rfl | rfl <;> simp <;> (rw [Bool.eq_iff_iff]; simp only [Bool.and_eq_true, decide_eq_true_eq]; grind)
  by_cases h13 : k = 13
  · subst h13; simp <;> (rw [Bool.eq_iff_iff]; simp only [Bool.and_eq_true, decide_eq_true_eq]; grind)
  by_cases h6 : k = 6
  · subst h6; simp <;> (rw [Bool.eq_iff_iff]; simp only [Bool.and_eq_true, decide_eq_true_eq]; grind)
  by_cases h16 : k = 16
  · subst h16; simp [belowE] <;> (rw [Bool.eq_iff_iff]; simp only [Bool.and_eq_true, decide_eq_true_eq]; grind)
  by_cases h17 : k = 17
  · subst h17; simp [below_among] <;> (rw [Bool.eq_iff_iff]; simp only [Bool.and_eq_true, decide_eq_true_eq]; grind)
  by_cases h18 : k = 18
  · subst h18
    have hp8 : ∀ i : Nat, t.Params[i]?.getD 0 ≤ 8 := by
      intro i
      cases h : t.Params[i]? with
      | none => simp
      | some p => exact hP p (List.mem_of_getElem? h)
    have h8 := hp8 (t.Funcs[n.toNat]?.getD 0).toNat
    clear hp8 hP
    rw [Bool.eq_iff_iff]
    simp [paramsM, below_among]
    by_cases hx : amongM n 0 (↑t.Funcs.length - 1) = true <;> by_cases hy : amongM (t.Funcs[n.toNat]?.getD 0) 0 (↑t.Params.length - 1) = true <;> simp [hx, hy] <;> first | (intros; omega) | grind
  by_cases h10 : k = 10
  · subst h10; simp <;> (rw [Bool.eq_iff_iff]; simp only [Bool.and_eq_true, decide_eq_true_eq]; grind)
  by_cases h12 : k = 12
  · subst h12; simp [Bool.and_assoc, Bool.and_comm, Bool.and_left_comm]
  simp only [not_or] at h4
  simp [h1, h14, h15, h19, h4, h13, h6, h16, h17, h18, h10, h12]
  intro h
  by_cases h2 : k = 2
  · simp [h2]
  by_cases h3 : k = 3
  · simp [h3]
  by_cases h7 : k = 7
  · simp [h7]
  by_cases h8 : k = 8
  · simp [h8]
  by_cases h9 : k = 9
  · simp [h9]
  simp [h2, h3, h7, h8, h9]
end Go.Ab

namespace Go.Ab
open Go.Proofs
set_option maxRecDepth 4000
mutual
def bookE (t : GTables) (locals : Int) : GExpr → Bool
  | .mk k o n s l => shapedE (.mk k o n s l) && okE t (.mk k o n s l) locals && booksE t locals l
def booksE (t : GTables) (locals : Int) : List GExpr → Bool
  | [] => true
  | x :: l => (!saidE x.Kind && bookE t locals x) && booksE t locals l
end
theorem bookE_eq (t : GTables) (locals : Int) (e : GExpr) : bookE t locals e = (shapedE e && okE t e locals && booksE t locals e.Args) := by cases e; rw [bookE]; rfl
theorem booksE_all (t : GTables) (locals : Int) (l : List GExpr) : booksE t locals l = l.all fun x => !saidE x.Kind && bookE t locals x := by
  induction l with
  | nil => rw [booksE]; rfl
  | cons x l ih => rw [booksE, ih]; rfl
theorem all_same {α : Type} {p q : α → Bool} {l : List α} (h : ∀ x ∈ l, p x = q x) : l.all p = l.all q := by
  rw [Bool.eq_iff_iff, List.all_eq_true, List.all_eq_true]
  exact ⟨fun hp x hx => by rw [← h x hx]; exact hp x hx, fun hp x hx => by rw [h x hx]; exact hp x hx⟩
theorem book_same (t : GTables) (hP : ∀ p ∈ t.Params, p ≤ 8) (locals : Int) : ∀ (N : Nat) (e : GExpr), SizeOf.sizeOf e < N → ∀ said, boundM t locals e said = ((said || !saidE e.Kind) && bookE t locals e)
  | 0, e, h, _ => by omega
  | N + 1, e, h, said => by
    rw [boundM_eq, head_one t hP, bookE_eq, boundsM_all, booksE_all]
    rw [all_same (l := e.Args) (q := fun x => !saidE x.Kind && bookE t locals x) (fun x hx => by
      rw [book_same t hP locals N x (by have := GExpr.lt_of_mem hx; omega) false]; simp)]
    simp only [Bool.and_assoc]
structure HasS where
  named : Bool
  body : Bool
  other : Bool
  least : Int
  most : Int
def hasS (k : Int) : Option HasS :=
  if k = 1 then some ⟨false, false, false, 1, 8⟩
  else if k = 2 ∨ k = 3 ∨ k = 5 ∨ k = 6 ∨ k = 17 ∨ k = 23 then some ⟨true, false, false, 1, 1⟩
  else if k = 4 then some ⟨true, false, false, 2, 2⟩
  else if k = 7 then some ⟨false, false, false, 2, 2⟩
  else if k = 8 ∨ k = 12 ∨ k = 16 ∨ k = 20 ∨ k = 22 ∨ k = 19 then some ⟨false, false, false, 1, 1⟩
  else if k = 9 then some ⟨false, true, true, 1, 1⟩
  else if k = 10 then some ⟨false, true, false, 1, 1⟩
  else if k = 11 then some ⟨true, true, false, 1, 1⟩
  else if k = 18 then some ⟨true, false, false, 0, 0⟩
  else if k = 13 ∨ k = 14 ∨ k = 15 ∨ k = 21 then some ⟨false, false, false, 0, 0⟩
  else none
def numberedS (t : GTables) (s : GStmt) (locals : Int) : Bool :=
  if s.Kind = 2 ∨ s.Kind = 3 then belowE s.Num locals
  else if s.Kind = 11 then belowE s.Num locals && belowE (s.Num + 1) locals
  else if s.Kind = 23 then belowE s.Num t.Globals.length
  else if s.Kind = 4 then belowE s.Num t.Props.length
  else if s.Kind = 5 ∨ s.Kind = 6 then belowE s.Num t.Flags
  else belowE s.Num t.Daemons.length
def nameS (t : GTables) (s : GStmt) (locals : Int) (named : Bool) : Bool := if named then s.Name.toList.isEmpty && numberedS t s locals else s.Name.toList.isEmpty && decide (s.Num = 0)
def topE (t : GTables) (s : GStmt) (locals : Int) : Bool := match hasS s.Kind with
  | some h => decide (h.least ≤ s.Args.length) && decide ((s.Args.length : Int) ≤ h.most) && (h.body || decide (s.Body.length = 0)) && (h.other || decide (s.Else.length = 0)) && nameS t s locals h.named && (decide (s.Kind ≠ 19) || callM s)
  | none => false
set_option maxHeartbeats 4000000 in
theorem topE_eq (t : GTables) (s : GStmt) (locals : Int) : ((shapeM s).1 && thereM t s locals && (decide (s.Kind ≠ 19) || callM s)) = topE t s locals := by
  obtain ⟨k, n, nm, a, b, c⟩ := s
  simp only [shapeM, thereM, topE, hasS, nameS, numberedS, hasM, amongM, belowE]
  by_cases h : k = 1 ∨ k = 2 ∨ k = 3 ∨ k = 4 ∨ k = 5 ∨ k = 6 ∨ k = 7 ∨ k = 8 ∨ k = 9 ∨ k = 10 ∨ k = 11 ∨ k = 12 ∨ k = 13 ∨ k = 14 ∨ k = 15 ∨ k = 16 ∨ k = 17 ∨ k = 18 ∨ k = 19 ∨ k = 20 ∨ k = 21 ∨ k = 22 ∨ k = 23
  · rcases h with rfl | rfl | rfl | rfl | rfl | rfl | rfl | rfl | rfl | rfl | rfl | rfl | rfl | rfl | rfl | rfl | rfl | rfl | rfl | rfl | rfl | rfl | rfl
    all_goals
      simp
      first | done | (rw [Bool.eq_iff_iff]; simp only [Bool.and_eq_true, Bool.or_eq_true, decide_eq_true_eq]; grind)
  · simp only [not_or] at h
    simp [h]
end Go.Ab

namespace Go.Ab
open Go.Proofs
set_option maxRecDepth 4000
mutual
def stmtE (t : GTables) (locals : Int) : GStmt → Bool
  | .mk k n nm a b c => topE t (.mk k n nm a b c) locals && (a.all fun x => (decide (k = 1) || !saidE x.Kind) && bookE t locals x) && (decide (b.length ≤ 256) && stmtsE t locals b) && (decide (c.length ≤ 256) && stmtsE t locals c)
def stmtsE (t : GTables) (locals : Int) : List GStmt → Bool
  | [] => true
  | s :: l => stmtE t locals s && stmtsE t locals l
end
def blockE (t : GTables) (locals : Int) (l : List GStmt) : Bool := decide (l.length ≤ 256) && stmtsE t locals l
theorem stmtE_eq (t : GTables) (locals : Int) (s : GStmt) : stmtE t locals s = (topE t s locals && (s.Args.all fun x => (decide (s.Kind = 1) || !saidE x.Kind) && bookE t locals x) && blockE t locals s.Body && blockE t locals s.Else) := by cases s; rw [stmtE]; rfl
theorem stmtsE_all (t : GTables) (locals : Int) (l : List GStmt) : stmtsE t locals l = l.all (stmtE t locals) := by
  induction l with
  | nil => rw [stmtsE]; rfl
  | cons x l ih => rw [stmtsE, ih]; rfl
theorem sizeOf_mem {α : Type} [SizeOf α] {x : α} {l : List α} (h : x ∈ l) : SizeOf.sizeOf x < SizeOf.sizeOf l := List.sizeOf_lt_of_mem h
theorem stmt_same (t : GTables) (hP : ∀ p ∈ t.Params, p ≤ 8) (locals : Int) : ∀ (N : Nat) (s : GStmt), SizeOf.sizeOf s < N → boundS t locals s = stmtE t locals s
  | 0, s, h => by omega
  | N + 1, s, h => by
    have hb : ∀ l : List GStmt, SizeOf.sizeOf l < SizeOf.sizeOf s → boundB t locals l = blockE t locals l := by
      intro l hl
      unfold boundB blockE
      rw [boundSs_all, stmtsE_all, Bool.and_comm, all_same fun x hx => stmt_same t hP locals N x (by have := sizeOf_mem hx; omega)]
    rw [boundS_eq, stmtE_eq, topE_eq, hb _ (GStmt.lt_body s), hb _ (GStmt.lt_else s), all_same fun x _ => book_same t hP locals _ x (Nat.lt_succ_self _) (decide (s.Kind = 1))]
theorem block_same (t : GTables) (hP : ∀ p ∈ t.Params, p ≤ 8) (locals : Int) (l : List GStmt) : boundB t locals l = blockE t locals l := by
  unfold boundB blockE
  rw [boundSs_all, stmtsE_all, Bool.and_comm, all_same fun x _ => stmt_same t hP locals _ x (Nat.lt_succ_self _)]
def deepE : Nat → GExpr → Int
  | 0, _ => 1
  | m + 1, e => e.Args.foldl (fun d x => max d (1 + deepE m x)) 1
theorem deepE_eq : ∀ (m : Nat) (e : GExpr), deepE m e = deepM e (m + 1)
  | 0, e => by rw [deepM_eq]; simp [deepE]
  | m + 1, e => by
    have key : ∀ (l : List GExpr) (n : Int), l.foldl (fun d x => max d (1 + deepE m x)) (n + 1) = deepsM l (m + 1) n + 1 := by
      intro l
      induction l with
      | nil => intro n; rw [deepsM]; rfl
      | cons x l ih =>
        intro n
        rw [List.foldl_cons, deepsM, deepE_eq m x, ← ih]
        congr 1
        split <;> omega
    rw [deepE, deepM_eq, if_pos (by omega)]
    have := key e.Args 0
    rw [Int.zero_add] at this
    rw [this]
    congr 2
    omega
theorem deepE_args (m : Nat) : ∀ (l : List GExpr) (n : Int), l.foldl (fun d x => max d (1 + deepE m x)) (n + 1) = deepsM l (m + 1) n + 1
  | [], n => by rw [deepsM]; rfl
  | x :: l, n => by
    rw [List.foldl_cons, deepsM, deepE_eq m x, ← deepE_args m l]
    congr 1
    split <;> omega
def deepBE : Nat → List GStmt → Int
  | 0, l => min l.length 1
  | m + 1, l => l.foldl (fun d s => max (max (s.Args.foldl (fun d x => max d (1 + deepE m x)) d) (1 + deepBE m s.Body)) (1 + deepBE m s.Else)) (min l.length 1)
theorem deepBE_eq : ∀ (m : Nat) (l : List GStmt), deepBE m l = deepB l (m + 1)
  | 0, l => by
    unfold deepB
    cases l with
    | nil => rfl
    | cons s l => simp [deepBE]; omega
  | m + 1, l => by
    have key : ∀ (l : List GStmt) (n : Int), l.foldl (fun d s => max (max (s.Args.foldl (fun d x => max d (1 + deepE m x)) d) (1 + deepBE m s.Body)) (1 + deepBE m s.Else)) (n + 1) = deepSs l (m + 1) n + 1 := by
      intro l
      induction l with
      | nil => intro n; rw [deepSs]; rfl
      | cons s l ih =>
        intro n
        rw [List.foldl_cons, deepSs, deepS_eq, deepE_args, deepBE_eq m, deepBE_eq m, ← ih]
        congr 1
        unfold greaterM
        split <;> split <;> omega
    unfold deepB
    cases l with
    | nil => rfl
    | cons s l =>
      rw [deepBE, show (min ((s :: l).length : Int) 1) = 0 + 1 by simp; omega, key]
      simp only [List.isEmpty_cons, Bool.false_eq_true, if_false]
      rw [if_pos (by omega)]
      congr 2
      omega
def boundE (t : GTables) (l : List GStmt) (locals : Int) : Bool := decide (deepBE 64 l ≤ 32) && blockE t locals l
theorem boundE_eq (t : GTables) (hP : ∀ p ∈ t.Params, p ≤ 8) (l : List GStmt) (locals : Int) : boundE t l locals = (decide (deepB l 65 ≤ 32) && boundB t locals l) := by
  unfold boundE
  rw [block_same t hP, deepBE_eq]
  rfl
end Go.Ab

namespace Go.Ab
open Go.Proofs
set_option maxHeartbeats 4000000
set_option maxRecDepth 20000
theorem tBelow_ok (n m : Int) : Pure Tryz.prog 140 [.d (.v (.int .i64 n)), .d (.v (.int .i64 m))] (.d (.v (.bool (belowE n m)))) := by
  unfold belowE
  refine Pure.run Tryz.func140 rfl (by simp [Tryz.f140]) ?_; simp [Tryz.f140]
theorem tSaid_ok (k : Int) : Pure Tryz.prog 143 [.d (.v (.int .i64 k))] (.d (.v (.bool (saidE k)))) := by
  unfold saidE
  refine Pure.run Tryz.func143 rfl (by simp [Tryz.f143]) ?_; simp [Tryz.f143]
  try grind
def hasV (o : Option HasE) : HasE := o.getD ⟨false, false, false, 0, 0⟩
def HasE.enc (h : HasE) : List D := [.v (.bool h.op), .v (.bool h.num), .v (.bool h.name), .v (.int .i64 h.least), .v (.int .i64 h.most)]
theorem tHas_ok (k : Int) : Pure Tryz.prog 186 [.d (.v (.int .i64 k))] (.tup [.agg ((hasV (hasE k)).enc.map .d), .d (.v (.bool (hasE k).isSome))]) := by
  unfold hasE hasV
  refine Pure.run Tryz.func186 rfl (by simp [Tryz.f186]) ?_; simp [-cB, Tryz.f186]
  repeat' (first
    | (with_reducible refine And.intro ?_ ?_)
    | (refine condC_split (fun h => ?_) (fun h => ?_) <;> (try simp at h) <;> (try simp [-cB, *]))
    | (with_reducible intro _))
  all_goals first | (simp [HasE.enc, *]; done) | skip
theorem tOp_ok (e : GExpr) : Pure Tryz.prog 187 [.agg (e.enc.map .d)] (.d (.v (.bool (opE e)))) := by
  unfold opE amongM
  refine Pure.run Tryz.func187 rfl (by simp [Tryz.f187]) ?_; simp [-cB, Tryz.f187]
  repeat' (first
    | (with_reducible refine And.intro ?_ ?_)
    | (refine condC_split (fun h => ?_) (fun h => ?_) <;> (try simp at h) <;> (try simp [-cB, *]))
    | (with_reducible intro _))
  all_goals first | (simp [*]; done) | grind | skip
end Go.Ab
