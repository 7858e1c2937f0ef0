/-
  The texts Gst3 Gst4 Gst5 Gst6 Gst7 Gst8 Gst9 Glaw2 Vbook Gtick Nest4 Bok Lgen Vbook2 Vbook3 Vbook4 Vbeg Vbeg2 Vsame Vsame2 Xmust Vdefer Rc Hd Vwk Vdo Vdo2 Vdo3 Vstep Vrk Zt Vdec Vdec2 Vdec3 Xnew Vtale Vlocs Vawk, one behind the other.
-/
import Derived.Test.YtnajleligcjlkaaGreatDoorMg6
import Derived.Deep.DeepHandedRow
import Derived.FnData
import Derived.LaidMore
set_option linter.unusedSimpArgs false
set_option linter.unusedVariables false
namespace Go.Ab
open Go.Proofs
set_option maxRecDepth 40000
set_option maxHeartbeats 4000000
def callM (s : GStmt) : Bool := decide ((s.Args[0]?.getD GExpr.zero).Kind = 18)
mutual
def boundS (t : GTables) (locals : Int) : GStmt → Bool
  | .mk k n nm a b c => (shapeM (.mk k n nm a b c)).1 && thereM t (.mk k n nm a b c) locals && (decide (k ≠ 19) || callM (.mk k n nm a b c)) && (a.all fun x => boundM t locals x (decide (k = 1))) && (boundSs t locals b && decide (b.length ≤ 256)) && (boundSs t locals c && decide (c.length ≤ 256))
def boundSs (t : GTables) (locals : Int) : List GStmt → Bool
  | [] => true
  | s :: l => boundS t locals s && boundSs t locals l
end
def boundB (t : GTables) (locals : Int) (l : List GStmt) : Bool := boundSs t locals l && decide (l.length ≤ 256)
theorem boundS_eq (t : GTables) (locals : Int) (s : GStmt) : boundS t locals s = ((shapeM s).1 && thereM t s locals && (decide (s.Kind ≠ 19) || callM s) && (s.Args.all fun x => boundM t locals x (decide (s.Kind = 1))) && boundB t locals s.Body && boundB t locals s.Else) := by cases s; rw [boundS]; rfl
theorem boundSs_all (t : GTables) (locals : Int) (l : List GStmt) : boundSs t locals l = l.all fun s => boundS t locals s := by
  induction l with
  | nil => rw [boundSs]; rfl
  | cons s l ih => rw [boundSs, ih]; rfl
theorem shape_call {s : GStmt} (h : (shapeM s).1 = true) (hk : s.Kind = 19) : ∃ x, s.Args = [x] := by
  simp [shapeM, hk, hasM] at h
  have hl : s.Args.length = 1 := by omega
  generalize s.Args = l at hl
  match l, hl with
  | [x], _ => exact ⟨x, rfl⟩
theorem boundB_ok (t : GTables) (ht : t.wf) (locals : Int) (hlo : inR .i64 locals) (l : List GStmt) (hl : ∀ s ∈ l, s.wf) (hlen : l.length * 104 ≤ 140737488351232) : Pure Tryz.prog 146 [.agg (t.enc.map .d), .d (.sl (l.map GStmt.enc)), .d (.v (.int .i64 locals))] (.d (.v (.bool (boundB t locals l)))) := by
  obtain ⟨n, hn⟩ : ∃ n, SizeOf.sizeOf l < n := ⟨_, Nat.lt_succ_self _⟩
  induction n generalizing l with
  | zero => omega
  | succ n ih =>
    have hsub : ∀ s ∈ l, Pure Tryz.prog 146 [.agg (t.enc.map .d), .d (.sl (s.Body.map GStmt.enc)), .d (.v (.int .i64 locals))] (.d (.v (.bool (boundB t locals s.Body)))) ∧
        Pure Tryz.prog 146 [.agg (t.enc.map .d), .d (.sl (s.Else.map GStmt.enc)), .d (.v (.int .i64 locals))] (.d (.v (.bool (boundB t locals s.Else)))) := by
      intro s hs
      have hw := hl s hs
      have h1 := List.sizeOf_lt_of_mem hs
      have h2 := GStmt.lt_body s
      have h3 := GStmt.lt_else s
      exact ⟨ih s.Body (GStmt.wf_Body hw) (GStmt.wl_Body hw) (by omega), ih s.Else (GStmt.wf_Else hw) (GStmt.wl_Else hw) (by omega)⟩
    refine Pure.run Tryz.func146 rfl (by simp [Tryz.f146]) ?_; simp [Tryz.f146]
    intro bs0
    refine AWP.loopL [1, 2, 3, 13, 14, 15] l (fun pre => [(15, .d (.v (.int .i64 pre.length)))]) (fun _ => []) (fun pre => boundSs t locals pre = true) (by rfl) (by omega) (by simp [boundSs]) ?_ ?_
    · rintro pre s post hsp hpre hlt hge a4
      have hno : boundS t locals s = false → boundB t locals l = false := fun h => by
        unfold boundB; rw [boundSs_all, hsp]; simp [h]
      have hyes : boundS t locals s = true → boundSs t locals (pre ++ [s]) = true := fun h => by
        rw [boundSs_all] at hpre ⊢; rw [List.all_append, hpre]; simp [h]
      have hS := hsub s (by rw [hsp]; simp)
      have hws := hl s (by rw [hsp]; simp)
      have hwa := GStmt.wl_Args hws
      rw [boundS_eq] at hno hyes
      have hcall : (shapeM s).1 = true → s.Kind = 19 → 0 < s.Args.length := fun h1 h2 => by obtain ⟨x, hx⟩ := shape_call h1 h2; simp [hx]
      have hsp' := hsp.symm
      clear ih hsub hlen hn hsp
      simp [-cB, hlt, hge]
      intro bs
      refine AOps.pureC rfl (shape_ok s) rfl rfl (by simp) rfl ?_
      simp [-cB]
      repeat' (first
        | (with_reducible refine And.intro ?_ ?_)
        | (refine condC_split (fun h => ?_) (fun h => ?_) <;> (try simp at h) <;> (try simp [-cB, *]))
        | (refine AOps.pureC rfl (there_ok t ht s locals hlo) rfl rfl (by simp) rfl ?_ <;> (try simp [-cB, *]))
        | (refine AOps.lendC rfl (there_ok t ht s locals hlo) rfl (by simp) rfl rfl (by simp) rfl ?_ <;> (try simp [-cB, *]))
        | (refine AOps.pureG rfl (fun h => there_ok t ht s locals hlo) rfl (by first | rfl | (simp; rfl)) (by simp) (by simp) rfl ?_ <;> (try simp [-cB, *]))
        | (with_reducible intro _))
      all_goals first | assumption | (exact hcall (by assumption) (by assumption)) | (apply hno; rcases h with (h | h) | ⟨h1, h2⟩ <;> simp [callM, *]; done) | skip
      have hS1 := hS.1.ok
      have hS2 := hS.2.ok
      refine AWP.loopL [1, 2, 3, 8, 13, 14, 15, 47, 48, 49] s.Args (fun pre => [(49, .d (.v (.int .i64 pre.length)))]) (fun _ => []) (fun pre => (pre.all fun x => boundM t locals x (decide (s.Kind = 1))) = true) (by rfl) (by omega) (by simp) ?_ ?_
      · rintro pre' e post' hsp2 hpre2 hlt2 hge2 b4
        have hwe := GStmt.wf_Args hws e (by rw [hsp2]; simp)
        have hnoE : boundM t locals e (decide (s.Kind = 1)) = false → boundB t locals l = false := fun h => by
          apply hno; rw [hsp2]; simp [h]
        clear hsp2 hno hyes hsp' h
        simp [-cB, hlt2, hge2]
        intro bs2
        refine AOps.pureC rfl (boundX_ok t ht locals e hwe _) rfl rfl (by simp) rfl ?_
        simp [-cB]
        repeat' (first
          | (with_reducible refine And.intro ?_ ?_)
          | (refine condC_split (fun h => ?_) (fun h => ?_) <;> (try simp at h) <;> (try simp [-cB, *]))
          | (refine AOps.pureC rfl (boundX_ok t ht locals e hwe _) rfl rfl (by simp) rfl ?_ <;> (try simp [-cB, *]))
          | (refine AOps.lendC rfl (boundX_ok t ht locals e hwe _) rfl (by simp) rfl rfl (by simp) rfl ?_ <;> (try simp [-cB, *]))
          | (refine AOps.pureG rfl (fun h => boundX_ok t ht locals e hwe _) rfl (by first | rfl | (simp; rfl)) (by simp) (by simp) rfl ?_ <;> (try simp [-cB, *]))
          | (with_reducible intro _))
        all_goals first
          | exact hnoE h
          | (rename_i y hy
             rcases hy with hy | rfl
             · exact List.all_eq_true.1 hpre2 y hy
             · exact h)
      · intro hall
        clear hsp'
        simp [-cB]
        repeat' (first
          | (with_reducible refine And.intro ?_ ?_)
          | (refine condC_split (fun h => ?_) (fun h => ?_) <;> (try simp at h) <;> (try simp [-cB, *]))
          | (refine AOps.pureC rfl (hS.1) rfl rfl (by simp) rfl ?_ <;> (try simp [-cB, *]))
          | (refine AOps.pureC rfl (hS.2) rfl rfl (by simp) rfl ?_ <;> (try simp [-cB, *]))
          | (refine AOps.lendC rfl (hS.1) rfl (by simp) rfl rfl (by simp) rfl ?_ <;> (try simp [-cB, *]))
          | (refine AOps.lendC rfl (hS.2) rfl (by simp) rfl rfl (by simp) rfl ?_ <;> (try simp [-cB, *]))
          | (refine AOps.pureG rfl (fun h => hS.1) rfl (by first | rfl | (simp; rfl)) (by simp) (by simp) rfl ?_ <;> (try simp [-cB, *]))
          | (refine AOps.pureG rfl (fun h => hS.2) rfl (by first | rfl | (simp; rfl)) (by simp) (by simp) rfl ?_ <;> (try simp [-cB, *]))
          | (with_reducible intro _))
        · apply hno; rcases h with h | h <;> simp [h]
        · rename_i h'
          apply hyes
          obtain ⟨⟨h1, h2⟩, h3⟩ := h'
          have h4 : (decide (s.Kind ≠ 19) || callM s) = true := by
            by_cases hk : s.Kind = 19
            · simp [callM, h3 hk]
            · simp [hk]
          rw [h1, h2, h4, hall, h.1, h.2]
          rfl
    · intro hpre
      simp [boundB, hpre]
      omega
theorem refBoundB_ok (t : GTables) (ht : t.wf) (locals : Int) (hlo : inR .i64 locals) (l : List GStmt) (hl : ∀ s ∈ l, s.wf) (hlen : l.length * 104 ≤ 140737488351232) : Pure Tryz.prog 93 [.agg (t.enc.map .d), .d (.sl (l.map GStmt.enc)), .d (.v (.int .i64 locals))] (.d (.v (.bool (decide (deepB l 65 ≤ 32) && boundB t locals l)))) := by
  refine Pure.run Tryz.func93 rfl (by simp [Tryz.f93]) ?_; simp [-cB, Tryz.f93]
  intro bs
  repeat' (first
    | (with_reducible refine And.intro ?_ ?_)
    | (refine condC_split (fun h => ?_) (fun h => ?_) <;> (try simp at h) <;> (try simp [-cB, *]))
    | (refine AOps.pureC rfl (depthB_ok l hl hlen) rfl rfl (by simp) rfl ?_ <;> (try simp [-cB, *]))
    | (refine AOps.pureC rfl (boundB_ok t ht locals hlo l hl hlen) rfl rfl (by simp) rfl ?_ <;> (try simp [-cB, *]))
    | (refine AOps.lendC rfl (depthB_ok l hl hlen) rfl (by simp) rfl rfl (by simp) rfl ?_ <;> (try simp [-cB, *]))
    | (refine AOps.lendC rfl (boundB_ok t ht locals hlo l hl hlen) rfl (by simp) rfl rfl (by simp) rfl ?_ <;> (try simp [-cB, *]))
    | (refine AOps.pureG rfl (fun h => depthB_ok l hl hlen) rfl (by first | rfl | (simp; rfl)) (by simp) (by simp) rfl ?_ <;> (try simp [-cB, *]))
    | (refine AOps.pureG rfl (fun h => boundB_ok t ht locals hlo l hl hlen) rfl (by first | rfl | (simp; rfl)) (by simp) (by simp) rfl ?_ <;> (try simp [-cB, *]))
    | (with_reducible intro _))
end Go.Ab

namespace Go.Ab
open Go.Proofs
set_option maxRecDepth 40000
set_option maxHeartbeats 4000000
def sayI (x : GExpr) (n : Int) : List GIns × Int :=
  if x.Kind = 19 then ([⟨21, x.Num⟩], n) else if x.Kind = 13 then ((genEs x.Args n).1 ++ [⟨23, 0⟩], (genEs x.Args n).2) else ((genE x n).1 ++ [⟨22, 0⟩], (genE x n).2)
def genSay : List GExpr → Int → List GIns × Int
  | [], n => ([], n)
  | x :: l, n => ((sayI x n).1 ++ (genSay l (sayI x n).2).1, (genSay l (sayI x n).2).2)
def deedM (k num : Int) : GIns :=
  if k = 2 ∨ k = 3 then ⟨6, num⟩ else if k = 23 then ⟨4, num⟩ else if k = 4 then ⟨14, num⟩ else if k = 5 then ⟨15, num⟩ else if k = 6 then ⟨16, num⟩ else if k = 17 then ⟨32, num⟩ else if k = 18 then ⟨33, num⟩
  else if k = 7 then ⟨17, 0⟩ else if k = 8 then ⟨18, 0⟩ else if k = 12 then ⟨27, 0⟩ else if k = 13 then ⟨28, 0⟩ else if k = 14 then ⟨29, 0⟩ else if k = 15 then ⟨30, 0⟩ else if k = 16 then ⟨31, 0⟩
  else if k = 20 then ⟨34, 0⟩ else if k = 21 then ⟨35, 0⟩ else if k = 22 then ⟨36, 0⟩ else ⟨2, 0⟩
def tick : GIns := ⟨37, 0⟩
mutual
def genS : GStmt → Int → List GIns × Int
  | .mk k num _ a b c, n =>
    if k = 9 then
      (if c.isEmpty then ([tick] ++ (genEs a (n + 1)).1 ++ [⟨25, n⟩] ++ (genB b (genEs a (n + 1)).2).1 ++ [⟨38, n⟩], (genB b (genEs a (n + 1)).2).2)
       else ([tick] ++ (genEs a (n + 2)).1 ++ [⟨25, n⟩] ++ (genB b (genEs a (n + 2)).2).1 ++ [⟨24, n + 1⟩, ⟨38, n⟩] ++ (genB c (genB b (genEs a (n + 2)).2).2).1 ++ [⟨38, n + 1⟩], (genB c (genB b (genEs a (n + 2)).2).2).2))
    else if k = 10 then ([⟨38, n⟩, tick] ++ (genEs a (n + 2)).1 ++ [⟨25, n + 1⟩] ++ (genB b (genEs a (n + 2)).2).1 ++ [⟨24, n⟩, ⟨38, n + 1⟩], (genB b (genEs a (n + 2)).2).2)
    else if k = 11 then ([tick] ++ (genEs a (n + 2)).1 ++ [⟨19, 2⟩, ⟨6, num⟩, ⟨38, n⟩, ⟨5, num⟩, ⟨25, n + 1⟩, tick] ++ [⟨5, num⟩, ⟨19, 3⟩, ⟨6, num + 1⟩] ++ (genB b (genEs a (n + 2)).2).1 ++ [⟨5, num + 1⟩, ⟨6, num⟩, ⟨24, n⟩, ⟨38, n + 1⟩], (genB b (genEs a (n + 2)).2).2)
    else if k = 1 then ([tick] ++ (genSay a n).1, (genSay a n).2)
    else ([tick] ++ (genEs a n).1 ++ [deedM k num], (genEs a n).2)
def genB : List GStmt → Int → List GIns × Int
  | [], n => ([], n)
  | s :: l, n => ((genS s n).1 ++ (genB l (genS s n).2).1, (genB l (genS s n).2).2)
end
theorem genS_if0 (s : GStmt) (n : Int) (hk : s.Kind = 9) (he : s.Else = []) : genS s n = ([tick] ++ (genEs s.Args (n + 1)).1 ++ [⟨25, n⟩] ++ (genB s.Body (genEs s.Args (n + 1)).2).1 ++ [⟨38, n⟩], (genB s.Body (genEs s.Args (n + 1)).2).2) := by
  cases s; cases hk; cases he; rw [genS]; rfl
theorem genS_if1 (s : GStmt) (n : Int) (hk : s.Kind = 9) (he : s.Else ≠ []) : genS s n = ([tick] ++ (genEs s.Args (n + 2)).1 ++ [⟨25, n⟩] ++ (genB s.Body (genEs s.Args (n + 2)).2).1 ++ [⟨24, n + 1⟩, ⟨38, n⟩] ++ (genB s.Else (genB s.Body (genEs s.Args (n + 2)).2).2).1 ++ [⟨38, n + 1⟩], (genB s.Else (genB s.Body (genEs s.Args (n + 2)).2).2).2) := by
  cases s with
  | mk k num nm a b c =>
    cases hk
    rw [genS]
    have : c.isEmpty = false := by cases c with | nil => exact (he rfl).elim | cons x l => rfl
    simp [this]
theorem genS_while (s : GStmt) (n : Int) (hk : s.Kind = 10) : genS s n = ([⟨38, n⟩, tick] ++ (genEs s.Args (n + 2)).1 ++ [⟨25, n + 1⟩] ++ (genB s.Body (genEs s.Args (n + 2)).2).1 ++ [⟨24, n⟩, ⟨38, n + 1⟩], (genB s.Body (genEs s.Args (n + 2)).2).2) := by
  cases s; cases hk; rw [genS]; rfl
theorem genS_each (s : GStmt) (n : Int) (hk : s.Kind = 11) : genS s n = ([tick] ++ (genEs s.Args (n + 2)).1 ++ [⟨19, 2⟩, ⟨6, s.Num⟩, ⟨38, n⟩, ⟨5, s.Num⟩, ⟨25, n + 1⟩, tick] ++ [⟨5, s.Num⟩, ⟨19, 3⟩, ⟨6, s.Num + 1⟩] ++ (genB s.Body (genEs s.Args (n + 2)).2).1 ++ [⟨5, s.Num + 1⟩, ⟨6, s.Num⟩, ⟨24, n⟩, ⟨38, n + 1⟩], (genB s.Body (genEs s.Args (n + 2)).2).2) := by
  cases s; cases hk; rw [genS]; rfl
theorem genS_say (s : GStmt) (n : Int) (hk : s.Kind = 1) : genS s n = ([tick] ++ (genSay s.Args n).1, (genSay s.Args n).2) := by
  cases s; cases hk; rw [genS]; rfl
theorem genS_plain (s : GStmt) (n : Int) (h1 : s.Kind ≠ 9) (h2 : s.Kind ≠ 10) (h3 : s.Kind ≠ 11) (h4 : s.Kind ≠ 1) : genS s n = ([tick] ++ (genEs s.Args n).1 ++ [deedM s.Kind s.Num], (genEs s.Args n).2) := by
  cases s with
  | mk k num nm a b c =>
    rw [genS.eq_def]
    simp only [GStmt.Kind_mk] at h1 h2 h3 h4
    simp [h1, h2, h3, h4]
theorem genB_snoc (l : List GStmt) (x : GStmt) (m : Int) : genB (l ++ [x]) m = ((genB l m).1 ++ (genS x (genB l m).2).1, (genS x (genB l m).2).2) := by
  induction l generalizing m with
  | nil => simp [genB]
  | cons y l ih => simp [genB, ih]
theorem genSay_snoc (l : List GExpr) (x : GExpr) (m : Int) : genSay (l ++ [x]) m = ((genSay l m).1 ++ (sayI x (genSay l m).2).1, (sayI x (genSay l m).2).2) := by
  induction l generalizing m with
  | nil => simp [genSay]
  | cons y l ih => simp [genSay, ih]
theorem szB_app (l r : List GStmt) : szB (l ++ r) = szB l + szB r := by
  induction l with
  | nil => simp [szB]
  | cons x l ih => simp only [List.cons_append, szB, ih]; omega
theorem genEs_bd' (l : List GExpr) (m : Int) : m ≤ (genEs l m).2 ∧ (genEs l m).2 ≤ m + 2 * szEs l ∧ (genEs l m).1.length ≤ 6 * szEs l := genEs_bd l (fun x _ m => genE_bd x m) m
theorem sayI_bd (x : GExpr) (m : Int) : m ≤ (sayI x m).2 ∧ (sayI x m).2 ≤ m + 2 * szE x ∧ (sayI x m).1.length ≤ 7 * szE x := by
  have h1 := genEs_bd' x.Args m
  have h2 := genE_bd x m
  have h3 := szE_eq x
  unfold sayI
  split
  · simp only [List.length_cons, List.length_nil]; omega
  · split
    · simp only [List.length_append, List.length_cons, List.length_nil]; omega
    · simp only [List.length_append, List.length_cons, List.length_nil]; omega
theorem genSay_bd (l : List GExpr) (m : Int) : m ≤ (genSay l m).2 ∧ (genSay l m).2 ≤ m + 2 * szEs l ∧ (genSay l m).1.length ≤ 7 * szEs l := by
  induction l generalizing m with
  | nil => simp [genSay, szEs]
  | cons x l ih =>
    have h1 := sayI_bd x m
    have h2 := ih (sayI x m).2
    rw [genSay, szEs, List.length_append]
    omega
theorem genB_bd : ∀ (N : Nat) (l : List GStmt), SizeOf.sizeOf l < N → ∀ m : Int, m ≤ (genB l m).2 ∧ (genB l m).2 ≤ m + 2 * szB l ∧ (genB l m).1.length ≤ 16 * szB l := by
  intro N
  induction N with
  | zero => intro l h; omega
  | succ N ih =>
    intro l h m
    cases l with
    | nil => simp [genB, szB]
    | cons s l =>
      have hl : SizeOf.sizeOf l < N := by simp only [List.cons.sizeOf_spec] at h; omega
      have hs : SizeOf.sizeOf s < N := by simp only [List.cons.sizeOf_spec] at h; omega
      have hb := GStmt.lt_body s
      have he := GStmt.lt_else s
      rw [genB, szB, szS_eq, List.length_append]
      have h2 := ih l hl (genS s m).2
      have key : m ≤ (genS s m).2 ∧ (genS s m).2 ≤ m + 2 * (1 + szEs s.Args + szB s.Body + szB s.Else) ∧ (genS s m).1.length ≤ 16 * (1 + szEs s.Args + szB s.Body + szB s.Else) := by
        by_cases k9 : s.Kind = 9
        · by_cases he0 : s.Else = []
          · rw [genS_if0 s m k9 he0]
            have a1 := genEs_bd' s.Args (m + 1)
            have a2 := ih s.Body (by omega) (genEs s.Args (m + 1)).2
            simp only [List.length_append, List.length_cons, List.length_nil]
            omega
          · rw [genS_if1 s m k9 he0]
            have a1 := genEs_bd' s.Args (m + 2)
            have a2 := ih s.Body (by omega) (genEs s.Args (m + 2)).2
            have a3 := ih s.Else (by omega) (genB s.Body (genEs s.Args (m + 2)).2).2
            simp only [List.length_append, List.length_cons, List.length_nil]
            omega
        by_cases k10 : s.Kind = 10
        · rw [genS_while s m k10]
          have a1 := genEs_bd' s.Args (m + 2)
          have a2 := ih s.Body (by omega) (genEs s.Args (m + 2)).2
          simp only [List.length_append, List.length_cons, List.length_nil]
          omega
        by_cases k11 : s.Kind = 11
        · rw [genS_each s m k11]
          have a1 := genEs_bd' s.Args (m + 2)
          have a2 := ih s.Body (by omega) (genEs s.Args (m + 2)).2
          simp only [List.length_append, List.length_cons, List.length_nil]
          omega
        by_cases k1 : s.Kind = 1
        · rw [genS_say s m k1]
          have a1 := genSay_bd s.Args m
          simp only [List.length_append, List.length_cons, List.length_nil]
          omega
        · rw [genS_plain s m k9 k10 k11 k1]
          have a1 := genEs_bd' s.Args m
          simp only [List.length_append, List.length_cons, List.length_nil]
          omega
      omega
theorem genB_bd' (l : List GStmt) (m : Int) : m ≤ (genB l m).2 ∧ (genB l m).2 ≤ m + 2 * szB l ∧ (genB l m).1.length ≤ 16 * szB l := genB_bd _ l (Nat.lt_succ_self _) m
theorem genS_bd (s : GStmt) (m : Int) : m ≤ (genS s m).2 ∧ (genS s m).2 ≤ m + 2 * szS s ∧ (genS s m).1.length ≤ 16 * szS s := by
  have := genB_bd' [s] m
  simpa [genB, szB] using this
end Go.Ab

namespace Go.Ab
open Go.Proofs
set_option maxRecDepth 40000
set_option maxHeartbeats 4000000
theorem deed_ok (s : GStmt) : Pure Tryz.prog 328 [.agg (s.enc.map .d)] (.agg ((deedM s.Kind s.Num).enc.map .d)) := by
  refine Pure.run Tryz.func328 rfl (by simp [Tryz.f328]) ?_; simp [-cB, Tryz.f328]
  intro bs
  repeat' (first
    | (with_reducible refine And.intro ?_ ?_)
    | (refine condC_split (fun h => ?_) (fun h => ?_) <;> (try simp at h) <;> (try simp [-cB, *]))
    | (refine AOps.pureC rfl (code_ok _ _) rfl rfl (by simp) rfl ?_ <;> (try simp [-cB, *]))
    | (refine AOps.lendC rfl (code_ok _ _) rfl (by simp) rfl rfl (by simp) rfl ?_ <;> (try simp [-cB, *]))
    | (refine AOps.pureG rfl (fun h => code_ok _ _) rfl (by first | rfl | (simp; rfl)) (by simp) (by simp) rfl ?_ <;> (try simp [-cB, *]))
    | (with_reducible intro _))
  all_goals simp [deedM, *]
theorem join_own (a b : List GIns) (ha : a.length ≤ 1000000000000) (hb : b.length ≤ 1000000000000) : ACalls Tryz.prog 215 [.d (.sl (a.map GIns.enc)), .d (.sl (b.map GIns.enc))] [] (fun r L => r = .ret (.rv 5) ∧ L = [(5, .row 110 2 (dd ((a ++ b).map GIns.enc)))]) := by
  refine ACalls.run Tryz.func215 rfl (by simp [Tryz.f215]) ?_; simp [Tryz.f215]
  omega
theorem genE_one (x : GExpr) (m : Int) : genEs [x] m = genE x m := by
  simp [genEs]
theorem bound_title {t : GTables} {locals : Int} {e : GExpr} (h : boundM t locals e true = true) (hk : e.Kind = 13) : ∃ a, e.Args = [a] := by
  rw [boundM_eq, Bool.and_eq_true] at h
  have h1 := h.1
  simp [boundK, hk, bareM] at h1
  have hl : e.Args.length = 1 := by omega
  generalize e.Args = l at hl
  match l, hl with
  | [a], _ => exact ⟨a, rfl⟩
theorem refSay_ok (t : GTables) (locals : Int) (l : List GExpr) (hl : ∀ x ∈ l, x.wf) (hb : ∀ x ∈ l, boundM t locals x true = true) (hlen : l.length ≤ 1000000000000000) (n : Int) (hn : 0 ≤ n ∧ n + 2 * szEs l ≤ 1000000000) :
    Pure Tryz.prog 326 [.d (.sl (l.map GExpr.enc)), .d (.v (.int .i64 n))] (genT (genSay l n)) := by
  unfold genT
  refine Pure.run Tryz.func326 rfl (by simp [Tryz.f326]) ?_; simp [-cB, Tryz.f326]
  refine AWP.weaken (Wk.own' (t := 6) (h := 5) (k := 2) (ty := 110) rfl (by simp)) ?_
  refine AWP.loopL [0, 1, 6, 7] l (fun pre => [(1, .d (.v (.int .i64 (genSay pre n).2))), (7, .d (.v (.int .i64 pre.length)))]) (fun pre => [(5, .row 110 2 (dd ((genSay pre n).1.map GIns.enc)))]) (fun _ => True) (by rfl) (by omega) (by simp [genSay]) ?_ ?_
  · rintro pre x post hsp - hlt hge a4
    have hw := hl x (by rw [hsp]; simp)
    have hbx := hb x (by rw [hsp]; simp)
    have hsn := genSay_snoc pre x n
    have hsz : szEs pre + szE x ≤ szEs l := by rw [hsp, szEs_app]; simp only [szEs]; omega
    have b1 := genSay_bd pre n
    have b2 := sayI_bd x (genSay pre n).2
    clear hsp
    generalize genSay pre n = k at *
    obtain ⟨k1, k2⟩ := k
    simp only at hsn b1 b2 ⊢
    have hz := szE_eq x
    by_cases h19 : x.Kind = 19
    · have hI : sayI x k2 = ([⟨21, x.Num⟩], k2) := by simp [sayI, h19]
      rw [hI] at hsn
      simp [hlt, hge, h19]
      refine AOps.pureC rfl (code_ok _ _) rfl rfl (by simp) rfl ?_
      simp [hge, hsn, a4]
      omega
    · have hE : ∃ y, (∀ m, sayI x m = ((genE y m).1 ++ [⟨if x.Kind = 13 then 23 else 22, 0⟩], (genE y m).2)) ∧ boundM t locals y false = true ∧ y.wf ∧ szE y ≤ szE x ∧ (if x.Kind = 13 then x.Args = [y] else y = x) := by
        by_cases h13 : x.Kind = 13
        · obtain ⟨y, hy⟩ := bound_title hbx h13
          refine ⟨y, fun m => by simp [sayI, h13, hy, genE_one], bound_mem hbx (by simp [hy]), GExpr.wf_Args hw y (by simp [hy]), ?_, by simp [h13, hy]⟩
          rw [hz, hy]; simp only [szEs]; omega
        · exact ⟨x, fun m => by simp [sayI, h19, h13], bound_said hbx h19 h13, hw, by omega, by simp [h13]⟩
      obtain ⟨y, h1, h2, h3, h4, h5⟩ := hE
      have hC := refExpr_ok t locals y h3 h2 k2 ⟨by omega, by omega⟩
      have b3 := genE_bd y k2
      rw [h1] at hsn
      generalize genE y k2 = q at *
      obtain ⟨q1, q2⟩ := q
      unfold genT at hC
      simp only at hsn hC b3
      by_cases h13 : x.Kind = 13
      · rw [if_pos h13] at h5 hsn
        simp [hlt, hge, h19, h13, h5]
        intro bs
        refine AOps.pureC rfl (hC) rfl rfl (by simp) rfl ?_
        simp
        refine AOps.weaken (Wk.freeze 5 (ys := k1.map GIns.enc) rfl) ?_
        simp
        refine AOps.pureC rfl (join_ok k1 q1 (by omega) (by omega)) (by simp) rfl (by simp) rfl ?_
        simp
        refine AOps.pureC rfl (code_ok _ _) rfl rfl (by simp) rfl ?_
        simp
        refine AOps.weaken (Wk.freeze 55 (ys := ([GIns.mk 23 0]).map _) rfl) ?_
        simp
        refine AOps.effD [] rfl (join_own (k1 ++ q1) [GIns.mk 23 0] (by simp <;> omega) (by simp)) (by simp) rfl (by simp) rfl (by kernel_rfl) (by simp) (by simp) (by simp) (by simp) (by simp) ?_
        simp [hsn, a4]
      · rw [if_neg h13] at h5 hsn
        subst h5
        simp [hlt, hge, h19, h13]
        intro bs
        refine AOps.pureC rfl (hC) rfl rfl (by simp) rfl ?_
        simp
        refine AOps.weaken (Wk.freeze 5 (ys := k1.map GIns.enc) rfl) ?_
        simp
        refine AOps.pureC rfl (join_ok k1 q1 (by omega) (by omega)) (by simp) rfl (by simp) rfl ?_
        simp
        refine AOps.pureC rfl (code_ok _ _) rfl rfl (by simp) rfl ?_
        simp
        refine AOps.weaken (Wk.freeze 55 (ys := ([GIns.mk 22 0]).map _) rfl) ?_
        simp
        refine AOps.effD [] rfl (join_own (k1 ++ q1) [GIns.mk 22 0] (by simp <;> omega) (by simp)) (by simp) rfl (by simp) rfl (by kernel_rfl) (by simp) (by simp) (by simp) (by simp) (by simp) ?_
        simp [hsn, a4]
  · intro _
    simp
end Go.Ab

namespace Go.Ab
open Go.Proofs
set_option maxRecDepth 40000
set_option maxHeartbeats 4000000
theorem join_r2 (h : Nat) (hh : h ≠ 5) (a b : List GIns) (ha : a.length ≤ 1000000000000) (hb : b.length ≤ 1000000000000) : ACalls Tryz.prog 215 [.d (.sl (a.map GIns.enc)), .rv h] [(h, .row 110 2 (dd (b.map GIns.enc)))] (fun r L => r = .ret (.d (.sl ((a ++ b).map GIns.enc))) ∧ L = [(h, .row 110 2 (dd (b.map GIns.enc)))]) := by
  have h5 : (h == 5) = false := by simp [hh]
  refine ACalls.of_AWP Tryz.func215 rfl (by simp [Tryz.f215]) ?_
  refine AWP.seqK ?_
  simp [Tryz.f215]
  refine AWP.seqK ?_
  simp [hh, hh.symm, h5]
  refine ⟨by omega, by omega, ?_⟩
  refine AWP.weaken (Wk.freeze 5 (k := 2) (ty := 110) (ys := a.map GIns.enc ++ b.map GIns.enc) rfl) (AWP.ret ?_)
  simp [hh, hh.symm, h5]
theorem join_r1 (h : Nat) (hh : h ≠ 5) (a b : List GIns) (ha : a.length ≤ 1000000000000) (hb : b.length ≤ 1000000000000) : ACalls Tryz.prog 215 [.rv h, .d (.sl (b.map GIns.enc))] [(h, .row 110 2 (dd (a.map GIns.enc)))] (fun r L => r = .ret (.d (.sl ((a ++ b).map GIns.enc))) ∧ L = [(h, .row 110 2 (dd (a.map GIns.enc)))]) := by
  have h5 : (h == 5) = false := by simp [hh]
  refine ACalls.of_AWP Tryz.func215 rfl (by simp [Tryz.f215]) ?_
  refine AWP.seqK ?_
  simp [Tryz.f215]
  refine AWP.seqK ?_
  simp [hh, hh.symm, h5]
  refine ⟨by omega, by omega, ?_⟩
  refine AWP.weaken (Wk.freeze 5 (k := 2) (ty := 110) (ys := a.map GIns.enc ++ b.map GIns.enc) rfl) (AWP.ret ?_)
  simp [hh, hh.symm, h5]
theorem boundS_parts {t : GTables} {locals : Int} {s : GStmt} (h : boundS t locals s = true) : (shapeM s).1 = true ∧ thereM t s locals = true ∧ (∀ x ∈ s.Args, boundM t locals x (decide (s.Kind = 1)) = true) ∧ (∀ x ∈ s.Body, boundS t locals x = true) ∧ (∀ x ∈ s.Else, boundS t locals x = true) := by
  rw [boundS_eq] at h
  simp only [Bool.and_eq_true, boundB, boundSs_all, List.all_eq_true] at h
  obtain ⟨⟨⟨⟨⟨h1, h2⟩, h3⟩, h4⟩, h5⟩, h6⟩ := h
  exact ⟨h1, h2, h4, h5.1, h6.1⟩
theorem shape_one {s : GStmt} (h : (shapeM s).1 = true) (hk : s.Kind = 9 ∨ s.Kind = 10 ∨ s.Kind = 11) : ∃ x, s.Args = [x] := by
  have hl : s.Args.length = 1 := by
    rcases hk with hk | hk | hk <;> · simp [shapeM, hk, hasM] at h; omega
  generalize s.Args = l at hl
  match l, hl with
  | [x], _ => exact ⟨x, rfl⟩
def RStmt (s : GStmt) : Prop := ∀ n : Int, 0 ≤ n ∧ n + 2 * szS s ≤ 1000000000 → Pure Tryz.prog 305 [.agg (s.enc.map .d), .d (.v (.int .i64 n))] (genT (genS s n))
theorem refBlock_of (l : List GStmt) (hlen : l.length ≤ 1000000000000000) (ih : ∀ s ∈ l, RStmt s) (n : Int) (hn : 0 ≤ n ∧ n + 2 * szB l ≤ 1000000000) : Pure Tryz.prog 272 [.d (.sl (l.map GStmt.enc)), .d (.v (.int .i64 n))] (genT (genB l n)) := by
  unfold genT
  refine Pure.run Tryz.func272 rfl (by simp [Tryz.f272]) ?_; simp [Tryz.f272]
  refine AWP.weaken (Wk.nil' (t := 6) rfl) ?_
  refine AWP.loopL [0, 1, 6, 7] l (fun pre => [(1, .d (.v (.int .i64 (genB pre n).2))), (6, .d (.sl ((genB pre n).1.map GIns.enc))), (7, .d (.v (.int .i64 pre.length)))]) (fun _ => []) (fun _ => True) (by rfl) (by omega) (by simp [genB]) ?_ ?_
  · rintro pre s post hsp - hlt hge a4
    have hS := ih s (by rw [hsp]; simp)
    have hsn := genB_snoc pre s n
    have hsz : szB pre + szS s ≤ szB l := by rw [hsp, szB_app]; simp only [szB]; omega
    have b1 := genB_bd' pre n
    clear hsp
    generalize genB pre n = k at *
    obtain ⟨k1, k2⟩ := k
    simp only at hsn b1
    have b2 := genS_bd s k2
    have hC := hS k2 ⟨by omega, by omega⟩
    generalize genS s k2 = q at *
    obtain ⟨q1, q2⟩ := q
    unfold genT at hC
    simp only at hsn hC b2
    simp [hlt, hge]
    refine AOps.pureC rfl (hC) rfl rfl (by simp) rfl ?_
    simp
    refine AOps.pureC rfl (join_ok k1 q1 (by omega) (by omega)) (by simp) rfl (by simp) rfl ?_
    simp [hsn, a4]
  · intro _
    simp
theorem refEach_of (s : GStmt) (x : GExpr) (hA : s.Args = [x]) (n : Int) (hn : 0 ≤ n ∧ n + 2 * szS s ≤ 1000000000) (hnum : inR .i64 (s.Num + 1)) (hw : s.wf)
    (hx : ∀ m : Int, 0 ≤ m ∧ m + 2 * szE x ≤ 1000000000 → Pure Tryz.prog 321 [.agg (x.enc.map .d), .d (.v (.int .i64 m))] (genT (genE x m)))
    (hb : ∀ m : Int, 0 ≤ m ∧ m + 2 * szB s.Body ≤ 1000000000 → Pure Tryz.prog 272 [.d (.sl (s.Body.map GStmt.enc)), .d (.v (.int .i64 m))] (genT (genB s.Body m))) (hk : s.Kind = 11) :
    Pure Tryz.prog 325 [.agg (s.enc.map .d), .d (.v (.int .i64 n))] (genT (genS s n)) := by
  rw [genS_each s n hk, hA, genE_one]
  have hz := szS_eq s
  rw [hA] at hz
  simp only [szEs] at hz
  have b1 := genE_bd x (n + 2)
  have b2 := genB_bd' s.Body (genE x (n + 2)).2
  have hC := hx (n + 2) ⟨by omega, by omega⟩
  generalize genE x (n + 2) = p at *
  obtain ⟨p1, p2⟩ := p
  simp only at b1 b2 hC ⊢
  have hD := hb p2 ⟨by omega, by omega⟩
  generalize genB s.Body p2 = q at *
  obtain ⟨q1, q2⟩ := q
  unfold genT at hC hD ⊢
  simp only at b2 hC hD ⊢
  have a1 : inR .i64 (n + 2) := by rw [inR_i64]; omega
  have a2 : inR .i64 (n + 1) := by rw [inR_i64]; omega
  have c1 := fun a b L => (code_ok a b).ok L
  have c2 := fun m L => (label_ok m).ok L
  have c3 := fun m L => (jump_ok m).ok L
  have c4 := fun m L => (zero_ok m).ok L
  refine Pure.run Tryz.func325 rfl (by simp [Tryz.f325]) ?_; simp [Tryz.f325]
  intro bs
  simp [hA, a1]
  refine AOps.pureC rfl (hC) rfl rfl (by simp) rfl ?_
  simp
  refine AOps.pureC rfl (hD) rfl rfl (by simp) rfl ?_
  simp
  refine AOps.pureC rfl (code_ok 37 0) rfl rfl (by simp) rfl ?_
  simp
  refine AOps.weaken (Wk.freeze 29 (ys := ([GIns.mk 37 0]).map _) rfl) ?_
  simp
  refine AOps.pureC rfl (join_ok [GIns.mk 37 0] p1 (by simp) (by omega)) (by simp) rfl (by simp) rfl ?_
  simp
  refine AWP.regionM0 [some (0, 1), some (0, 0), some (0, 0), some (0, 0), some (0, 0), some (0, 0), some (0, 0), some (0, 0), some (0, 0), some (0, 0), some (0, 0), some (0, 0), some (0, 0), some (0, 0), none, none, some (2, 2)] [.agg ((GIns.mk 19 2).enc.map .d), .agg ((GIns.mk 6 s.Num).enc.map .d), .agg ((GIns.mk 38 n).enc.map .d), .agg ((GIns.mk 5 s.Num).enc.map .d), .agg ((GIns.mk 25 (n + 1)).enc.map .d), .agg ((GIns.mk 37 0).enc.map .d)] Tryz.mixed (by kernel_rfl) ?_
  simp [c1, c2, c3, c4, a1, a2]
  refine EffM.intro (fun _ => LOp.call 46 [46] rfl (join_r2 46 (by decide) ([GIns.mk 37 0] ++ p1) [GIns.mk 19 2, GIns.mk 6 s.Num, GIns.mk 38 n, GIns.mk 5 s.Num, GIns.mk 25 (n + 1), GIns.mk 37 0] (by simp <;> omega) (by simp)) (by simp) rfl (by kernel_rfl) (by simp [dd]) (by simp) (by simp +contextual) (by simp) (by simp)) ?_
  simp
  refine AWP.regionM0 [some (0, 1), some (0, 0), some (0, 0), some (0, 0), some (0, 0), some (0, 0), some (0, 0), some (0, 0), some (0, 0), none, none, some (2, 2)] [.agg ((GIns.mk 5 s.Num).enc.map .d), .agg ((GIns.mk 19 3).enc.map .d), .agg ((GIns.mk 6 (s.Num + 1)).enc.map .d)] Tryz.mixed (by kernel_rfl) ?_
  simp [c1, c2, c3, c4, a1, a2, hnum]
  refine EffM.intro (fun _ => LOp.call 57 [57] rfl (join_r2 57 (by decide) (([GIns.mk 37 0] ++ p1) ++ [GIns.mk 19 2, GIns.mk 6 s.Num, GIns.mk 38 n, GIns.mk 5 s.Num, GIns.mk 25 (n + 1), GIns.mk 37 0]) [GIns.mk 5 s.Num, GIns.mk 19 3, GIns.mk 6 (s.Num + 1)] (by simp <;> omega) (by simp)) (by simp) rfl (by kernel_rfl) (by simp [dd]) (by simp) (by simp +contextual) (by simp) (by simp)) ?_
  simp
  have c5 := fun L => (join_ok ((([GIns.mk 37 0] ++ p1) ++ [GIns.mk 19 2, GIns.mk 6 s.Num, GIns.mk 38 n, GIns.mk 5 s.Num, GIns.mk 25 (n + 1), GIns.mk 37 0]) ++ [GIns.mk 5 s.Num, GIns.mk 19 3, GIns.mk 6 (s.Num + 1)]) q1 (by simp <;> omega) (by omega)).ok L
  simp at c5
  refine AWP.regionM0 [some (0, 0), some (0, 0), some (0, 0), some (0, 0), some (0, 0), some (0, 0), some (0, 0), some (0, 0), some (0, 0), some (0, 0), some (0, 0), some (0, 0), some (0, 0), some (0, 0), some (0, 0), none, none, some (0, 2), some (2, 2), some (2, 2)] [.d (.sl ((((([GIns.mk 37 0] ++ p1) ++ [GIns.mk 19 2, GIns.mk 6 s.Num, GIns.mk 38 n, GIns.mk 5 s.Num, GIns.mk 25 (n + 1), GIns.mk 37 0]) ++ [GIns.mk 5 s.Num, GIns.mk 19 3, GIns.mk 6 (s.Num + 1)]) ++ q1).map GIns.enc)), .agg ((GIns.mk 5 (s.Num + 1)).enc.map .d), .agg ((GIns.mk 6 s.Num).enc.map .d), .agg ((GIns.mk 24 n).enc.map .d), .agg ((GIns.mk 38 (n + 1)).enc.map .d)] Tryz.mixed (by kernel_rfl) ?_
  simp [c1, c2, c3, c4, c5, a1, a2, hnum]
  refine EffM.intro (fun _ => LOp.call 74 [74] rfl (join_r2 74 (by decide) (((([GIns.mk 37 0] ++ p1) ++ [GIns.mk 19 2, GIns.mk 6 s.Num, GIns.mk 38 n, GIns.mk 5 s.Num, GIns.mk 25 (n + 1), GIns.mk 37 0]) ++ [GIns.mk 5 s.Num, GIns.mk 19 3, GIns.mk 6 (s.Num + 1)]) ++ q1) [GIns.mk 5 (s.Num + 1), GIns.mk 6 s.Num, GIns.mk 24 n, GIns.mk 38 (n + 1)] (by simp <;> omega) (by simp)) (by simp) rfl (by kernel_rfl) (by simp [dd]) (by simp) (by simp +contextual) (by simp) (by simp)) ?_
  simp [tick]
end Go.Ab

namespace Go.Ab
open Go.Proofs
set_option maxRecDepth 40000
set_option maxHeartbeats 4000000
def RExpr (x : GExpr) : Prop := ∀ m : Int, 0 ≤ m ∧ m + 2 * szE x ≤ 1000000000 → Pure Tryz.prog 321 [.agg (x.enc.map .d), .d (.v (.int .i64 m))] (genT (genE x m))
def RBlock (l : List GStmt) : Prop := ∀ m : Int, 0 ≤ m ∧ m + 2 * szB l ≤ 1000000000 → Pure Tryz.prog 272 [.d (.sl (l.map GStmt.enc)), .d (.v (.int .i64 m))] (genT (genB l m))
theorem refIf0_of (s : GStmt) (x : GExpr) (hA : s.Args = [x]) (n : Int) (hn : 0 ≤ n ∧ n + 2 * szS s ≤ 1000000000) (hx : RExpr x) (hb : RBlock s.Body) (hk : s.Kind = 9) (he : s.Else = []) :
    Pure Tryz.prog 305 [.agg (s.enc.map .d), .d (.v (.int .i64 n))] (genT (genS s n)) := by
  rw [genS_if0 s n hk he, hA, genE_one]
  have hz := szS_eq s
  rw [hA] at hz
  simp only [szEs] at hz
  have b1 := genE_bd x (n + 1)
  have b2 := genB_bd' s.Body (genE x (n + 1)).2
  have hC := hx (n + 1) ⟨by omega, by omega⟩
  generalize genE x (n + 1) = p at *
  obtain ⟨p1, p2⟩ := p
  simp only at b1 b2 hC ⊢
  have hD := hb p2 ⟨by omega, by omega⟩
  generalize genB s.Body p2 = q at *
  obtain ⟨q1, q2⟩ := q
  unfold genT at hC hD ⊢
  simp only at b2 hC hD ⊢
  have a1 : inR .i64 (n + 2) := by rw [inR_i64]; omega
  have a2 : inR .i64 (n + 1) := by rw [inR_i64]; omega
  have hlen : s.Else.length = 0 := by
    simp [he]
  have e0 : ((s.Else.length : Int) == 0) = true := by simp [he]
  refine Pure.run Tryz.func305 rfl (by simp [Tryz.f305]) ?_; simp [-cB, Tryz.f305, hk]
  intro bs
  refine AOps.pureC rfl (code_ok 37 0) rfl rfl (by simp) rfl ?_
  simp [-cB, hk, a1, a2, hlen, hA, he]
  refine AOps.weaken (Wk.freeze 25 (ys := ([GIns.mk 37 0]).map _) rfl) ?_
  simp [-cB]
  refine AOps.pureC rfl (hC) rfl rfl (by simp) rfl ?_
  simp [-cB]
  refine AOps.pureC rfl (hD) rfl rfl (by simp) rfl ?_
  simp [-cB]
  refine AOps.pureC rfl (join_ok [GIns.mk 37 0] p1 (by simp) (by omega)) (by simp) rfl (by simp) rfl ?_
  simp [-cB]
  refine AOps.pureC rfl (zero_ok n) rfl rfl (by simp) rfl ?_
  simp [-cB]
  refine AOps.weaken (Wk.freeze 59 (ys := ([GIns.mk 25 n]).map _) rfl) ?_
  simp [-cB]
  refine AOps.pureC rfl (join_ok ([GIns.mk 37 0] ++ p1) [GIns.mk 25 n] (by simp <;> omega) (by simp)) (by simp) rfl (by simp) rfl ?_
  simp [-cB]
  refine AOps.pureC rfl (join_ok ([GIns.mk 37 0] ++ p1 ++ [GIns.mk 25 n]) q1 (by simp <;> omega) (by omega)) (by simp) rfl (by simp) rfl ?_
  simp [-cB, hlen, he, e0]
  refine AOps.pureC rfl (label_ok n) rfl rfl (by simp) rfl ?_
  simp [-cB]
  refine AOps.weaken (Wk.freeze 70 (ys := ([GIns.mk 38 n]).map _) rfl) ?_
  simp [-cB]
  refine AOps.pureC rfl (join_ok ([GIns.mk 37 0] ++ p1 ++ [GIns.mk 25 n] ++ q1) [GIns.mk 38 n] (by simp <;> omega) (by simp)) (by simp) rfl (by simp) rfl ?_
  simp [tick]
theorem refIf1_of (s : GStmt) (x : GExpr) (hA : s.Args = [x]) (n : Int) (hn : 0 ≤ n ∧ n + 2 * szS s ≤ 1000000000) (hx : RExpr x) (hb : RBlock s.Body) (hc : RBlock s.Else) (hk : s.Kind = 9) (he : s.Else ≠ []) :
    Pure Tryz.prog 305 [.agg (s.enc.map .d), .d (.v (.int .i64 n))] (genT (genS s n)) := by
  rw [genS_if1 s n hk he, hA, genE_one]
  have hz := szS_eq s
  rw [hA] at hz
  simp only [szEs] at hz
  have b1 := genE_bd x (n + 2)
  have b2 := genB_bd' s.Body (genE x (n + 2)).2
  have hC := hx (n + 2) ⟨by omega, by omega⟩
  generalize genE x (n + 2) = p at *
  obtain ⟨p1, p2⟩ := p
  simp only at b1 b2 hC ⊢
  have hD := hb p2 ⟨by omega, by omega⟩
  have b3 := genB_bd' s.Else (genB s.Body p2).2
  generalize genB s.Body p2 = q at *
  obtain ⟨q1, q2⟩ := q
  simp only at b2 b3 hD ⊢
  have hF := hc q2 ⟨by omega, by omega⟩
  generalize genB s.Else q2 = r at *
  obtain ⟨r1, r2⟩ := r
  unfold genT at hC hD hF ⊢
  simp only at b2 hC hD b3 hF ⊢
  have a1 : inR .i64 (n + 2) := by rw [inR_i64]; omega
  have a2 : inR .i64 (n + 1) := by rw [inR_i64]; omega
  have hlen : 0 < s.Else.length := by
    cases h : s.Else with | nil => exact (he h).elim | cons a l => simp
  have e0 : ((s.Else.length : Int) == 0) = false := by simp [he]
  refine Pure.run Tryz.func305 rfl (by simp [Tryz.f305]) ?_; simp [-cB, Tryz.f305, hk]
  intro bs
  refine AOps.pureC rfl (code_ok 37 0) rfl rfl (by simp) rfl ?_
  simp [-cB, hk, a1, a2, hlen, hA, he]
  refine AOps.weaken (Wk.freeze 25 (ys := ([GIns.mk 37 0]).map _) rfl) ?_
  simp [-cB]
  refine AOps.pureC rfl (hC) rfl rfl (by simp) rfl ?_
  simp [-cB]
  refine AOps.pureC rfl (hD) rfl rfl (by simp) rfl ?_
  simp [-cB]
  refine AOps.pureC rfl (join_ok [GIns.mk 37 0] p1 (by simp) (by omega)) (by simp) rfl (by simp) rfl ?_
  simp [-cB]
  refine AOps.pureC rfl (zero_ok n) rfl rfl (by simp) rfl ?_
  simp [-cB]
  refine AOps.weaken (Wk.freeze 59 (ys := ([GIns.mk 25 n]).map _) rfl) ?_
  simp [-cB]
  refine AOps.pureC rfl (join_ok ([GIns.mk 37 0] ++ p1) [GIns.mk 25 n] (by simp <;> omega) (by simp)) (by simp) rfl (by simp) rfl ?_
  simp [-cB]
  refine AOps.pureC rfl (join_ok ([GIns.mk 37 0] ++ p1 ++ [GIns.mk 25 n]) q1 (by simp <;> omega) (by omega)) (by simp) rfl (by simp) rfl ?_
  simp [-cB, hlen, he, e0]
  refine AOps.pureC rfl (hF) rfl rfl (by simp) rfl ?_
  simp [-cB, a2]
  refine AOps.pureC rfl (jump_ok (n + 1)) rfl rfl (by simp) rfl ?_
  simp [-cB]
  refine AOps.pureC rfl (label_ok n) rfl rfl (by simp) rfl ?_
  simp [-cB]
  refine AOps.weaken (Wk.freeze 86 (ys := ([GIns.mk 24 (n + 1), GIns.mk 38 n]).map _) rfl) ?_
  simp [-cB]
  refine AOps.pureC rfl (join_ok ([GIns.mk 37 0] ++ p1 ++ [GIns.mk 25 n] ++ q1) [GIns.mk 24 (n + 1), GIns.mk 38 n] (by simp <;> omega) (by simp)) (by simp) rfl (by simp) rfl ?_
  simp [-cB]
  refine AOps.pureC rfl (join_ok (([GIns.mk 37 0] ++ p1 ++ [GIns.mk 25 n] ++ q1) ++ [GIns.mk 24 (n + 1), GIns.mk 38 n]) r1 (by simp <;> omega) (by omega)) (by simp) rfl (by simp) rfl ?_
  simp [-cB, a2]
  refine AOps.pureC rfl (label_ok (n + 1)) rfl rfl (by simp) rfl ?_
  simp [-cB]
  refine AOps.weaken (Wk.freeze 93 (ys := ([GIns.mk 38 (n + 1)]).map _) rfl) ?_
  simp [-cB]
  refine AOps.pureC rfl (join_ok (([GIns.mk 37 0] ++ p1 ++ [GIns.mk 25 n] ++ q1) ++ [GIns.mk 24 (n + 1), GIns.mk 38 n] ++ r1) [GIns.mk 38 (n + 1)] (by simp <;> omega) (by simp)) (by simp) rfl (by simp) rfl ?_
  simp [tick]
theorem refWhile_of (s : GStmt) (x : GExpr) (hA : s.Args = [x]) (n : Int) (hn : 0 ≤ n ∧ n + 2 * szS s ≤ 1000000000) (hx : RExpr x) (hb : RBlock s.Body) (hk : s.Kind = 10) :
    Pure Tryz.prog 305 [.agg (s.enc.map .d), .d (.v (.int .i64 n))] (genT (genS s n)) := by
  rw [genS_while s n hk, hA, genE_one]
  have hz := szS_eq s
  rw [hA] at hz
  simp only [szEs] at hz
  have b1 := genE_bd x (n + 2)
  have b2 := genB_bd' s.Body (genE x (n + 2)).2
  have hC := hx (n + 2) ⟨by omega, by omega⟩
  generalize genE x (n + 2) = p at *
  obtain ⟨p1, p2⟩ := p
  simp only at b1 b2 hC ⊢
  have hD := hb p2 ⟨by omega, by omega⟩
  generalize genB s.Body p2 = q at *
  obtain ⟨q1, q2⟩ := q
  unfold genT at hC hD ⊢
  simp only at b2 hC hD ⊢
  have a1 : inR .i64 (n + 2) := by rw [inR_i64]; omega
  have a2 : inR .i64 (n + 1) := by rw [inR_i64]; omega
  have c2 := fun m L => (label_ok m).ok L
  have c4 := fun m L => (zero_ok m).ok L
  refine Pure.run Tryz.func305 rfl (by simp [Tryz.f305]) ?_; simp [-cB, Tryz.f305, hk]
  intro bs
  refine AOps.pureC rfl (code_ok 37 0) rfl rfl (by simp) rfl ?_
  simp [-cB, hk, hA, a1]
  refine AOps.weaken (Wk.freeze 25 (ys := ([GIns.mk 37 0]).map _) rfl) ?_
  simp [-cB]
  refine AOps.pureC rfl (hC) rfl rfl (by simp) rfl ?_
  simp [-cB]
  refine AOps.pureC rfl (hD) rfl rfl (by simp) rfl ?_
  simp [-cB]
  refine AWP.regionM0 [some (0, 0), some (0, 0), some (0, 0), some (0, 0), some (0, 0), none, some (0, 1), none, some (0, 2), some (0, 2), some (2, 2), none, none, some (4, 4)] [.agg ((GIns.mk 38 n).enc.map .d), .agg ((GIns.mk 25 (n + 1)).enc.map .d)] Tryz.mixed (by kernel_rfl) ?_
  simp [c2, c4, a2]
  refine EffM.intro (fun _ => LOp.call 120 [120] rfl (join_r1 120 (by decide) [GIns.mk 38 n, GIns.mk 37 0] p1 (by simp) (by omega)) (by simp) rfl (by kernel_rfl) (by simp [dd]) (by simp) (by simp +contextual) (by simp) (by simp)) ?_
  simp [c2, c4, a2]
  refine EffM.intro (fun _ => LOp.call 126 [126] rfl (join_r2 126 (by decide) ([GIns.mk 38 n, GIns.mk 37 0] ++ p1) [GIns.mk 25 (n + 1)] (by simp <;> omega) (by simp)) (by simp) rfl (by kernel_rfl) (by simp [dd]) (by simp) (by simp +contextual) (by simp) (by simp)) ?_
  simp [c2, c4, a2]
  refine AOps.pureC rfl (join_ok (([GIns.mk 38 n, GIns.mk 37 0] ++ p1) ++ [GIns.mk 25 (n + 1)]) q1 (by simp <;> omega) (by omega)) (by simp) rfl (by simp) rfl ?_
  simp
  refine AOps.pureC rfl (jump_ok n) rfl rfl (by simp) rfl ?_
  simp [a2]
  refine AOps.pureC rfl (label_ok (n + 1)) rfl rfl (by simp) rfl ?_
  simp
  refine AOps.weaken (Wk.freeze 136 (ys := ([GIns.mk 24 n, GIns.mk 38 (n + 1)]).map _) rfl) ?_
  simp
  refine AOps.pureC rfl (join_ok ((([GIns.mk 38 n, GIns.mk 37 0] ++ p1) ++ [GIns.mk 25 (n + 1)]) ++ q1) [GIns.mk 24 n, GIns.mk 38 (n + 1)] (by simp <;> omega) (by simp)) (by simp) rfl (by simp) rfl ?_
  simp [tick]
theorem refSayS_of (s : GStmt) (n : Int) (hn : 0 ≤ n ∧ n + 2 * szS s ≤ 1000000000) (hk : s.Kind = 1) (hS : Pure Tryz.prog 326 [.d (.sl (s.Args.map GExpr.enc)), .d (.v (.int .i64 n))] (genT (genSay s.Args n))) :
    Pure Tryz.prog 305 [.agg (s.enc.map .d), .d (.v (.int .i64 n))] (genT (genS s n)) := by
  rw [genS_say s n hk]
  have hz := szS_eq s
  have b1 := genSay_bd s.Args n
  generalize genSay s.Args n = p at *
  obtain ⟨p1, p2⟩ := p
  unfold genT at hS ⊢
  simp only at hS b1 ⊢
  refine Pure.run Tryz.func305 rfl (by simp [Tryz.f305]) ?_; simp [-cB, Tryz.f305, hk]
  intro bs
  refine AOps.pureC rfl (code_ok 37 0) rfl rfl (by simp) rfl ?_
  simp [-cB, hk]
  refine AOps.weaken (Wk.freeze 25 (ys := ([GIns.mk 37 0]).map _) rfl) ?_
  simp [-cB, hk]
  refine AOps.pureC rfl (hS) rfl rfl (by simp) rfl ?_
  simp [-cB]
  refine AOps.pureC rfl (join_ok [GIns.mk 37 0] p1 (by simp) (by omega)) (by simp) rfl (by simp) rfl ?_
  simp [tick]
theorem refEachS_of (s : GStmt) (n : Int) (hk : s.Kind = 11) (hS : Pure Tryz.prog 325 [.agg (s.enc.map .d), .d (.v (.int .i64 n))] (genT (genS s n))) :
    Pure Tryz.prog 305 [.agg (s.enc.map .d), .d (.v (.int .i64 n))] (genT (genS s n)) := by
  generalize genS s n = p at *
  obtain ⟨p1, p2⟩ := p
  unfold genT at hS ⊢
  simp only at hS ⊢
  refine Pure.run Tryz.func305 rfl (by simp [Tryz.f305]) ?_; simp [-cB, Tryz.f305, hk]
  intro bs
  refine AOps.pureC rfl (code_ok 37 0) rfl rfl (by simp) rfl ?_
  simp [-cB, hk]
  refine AOps.pureC rfl (hS) rfl rfl (by simp) rfl ?_
  simp
theorem refPlain_of (s : GStmt) (n : Int) (hn : 0 ≤ n ∧ n + 2 * szS s ≤ 1000000000) (h1 : s.Kind ≠ 9) (h2 : s.Kind ≠ 10) (h3 : s.Kind ≠ 11) (h4 : s.Kind ≠ 1) (hS : Pure Tryz.prog 327 [.d (.sl (s.Args.map GExpr.enc)), .d (.v (.int .i64 n))] (genT (genEs s.Args n))) :
    Pure Tryz.prog 305 [.agg (s.enc.map .d), .d (.v (.int .i64 n))] (genT (genS s n)) := by
  rw [genS_plain s n h1 h2 h3 h4]
  have hz := szS_eq s
  have b1 := genEs_bd' s.Args n
  generalize genEs s.Args n = p at *
  obtain ⟨p1, p2⟩ := p
  unfold genT at hS ⊢
  simp only at hS b1 ⊢
  have e1 : (s.Kind == 9) = false := by simp [h1]
  have e2 : (s.Kind == 10) = false := by simp [h2]
  have e3 : (s.Kind == 11) = false := by simp [h3]
  have e4 : (s.Kind == 1) = false := by simp [h4]
  have c1 := (deed_ok s).ok
  have c2 := fun L => (join_ok [GIns.mk 37 0] p1 (by simp) (by omega)).ok L
  simp at c2
  refine Pure.run Tryz.func305 rfl (by simp [Tryz.f305]) ?_; simp [-cB, Tryz.f305]
  intro bs
  refine AOps.pureC rfl (code_ok 37 0) rfl rfl (by simp) rfl ?_
  simp [-cB, e1, e2, e3, e4]
  refine AOps.weaken (Wk.freeze 25 (ys := ([GIns.mk 37 0]).map _) rfl) ?_
  simp [-cB]
  refine AOps.pureC rfl (hS) rfl rfl (by simp) rfl ?_
  simp [-cB]
  refine AWP.regionM0 [some (0, 0), some (0, 0), some (0, 0), some (0, 0), some (0, 0), none, none, some (0, 2), some (2, 2), some (2, 2)] [.d (.sl (([GIns.mk 37 0] ++ p1).map GIns.enc)), .agg ((deedM s.Kind s.Num).enc.map .d)] Tryz.mixed (by kernel_rfl) ?_
  simp [c1, c2]
  refine EffM.intro (fun _ => LOp.call 171 [171] rfl (join_r2 171 (by decide) ([GIns.mk 37 0] ++ p1) [deedM s.Kind s.Num] (by simp <;> omega) (by simp)) (by simp) rfl (by kernel_rfl) (by simp [dd]) (by simp) (by simp +contextual) (by simp) (by simp)) ?_
  simp [tick]
theorem refStmt_ok (t : GTables) (locals : Int) (hlo : inR .i64 locals) (s : GStmt) (hw : s.wf) (hb : boundS t locals s = true) : RStmt s := by
  obtain ⟨N, hN⟩ : ∃ N, SizeOf.sizeOf s < N := ⟨_, Nat.lt_succ_self _⟩
  induction N generalizing s with
  | zero => omega
  | succ N ih =>
    intro n hn
    obtain ⟨p1, p2, p3, p4, p5⟩ := boundS_parts hb
    have hz := szS_eq s
    have hla := GStmt.wl_Args hw
    have hlb := GStmt.wl_Body hw
    have hle := GStmt.wl_Else hw
    have hB : RBlock s.Body := fun m hm => refBlock_of s.Body (by omega) (fun x hx => ih x (GStmt.wf_Body hw x hx) (p4 x hx) (by have := GStmt.lt_body s; have := List.sizeOf_lt_of_mem hx; omega)) m hm
    have hE : RBlock s.Else := fun m hm => refBlock_of s.Else (by omega) (fun x hx => ih x (GStmt.wf_Else hw x hx) (p5 x hx) (by have := GStmt.lt_else s; have := List.sizeOf_lt_of_mem hx; omega)) m hm
    by_cases k1 : s.Kind = 1
    · refine refSayS_of s n hn k1 (refSay_ok t locals s.Args (GStmt.wf_Args hw) (fun x hx => ?_) (by omega) n ⟨by omega, by omega⟩)
      have := p3 x hx
      rwa [show decide (s.Kind = 1) = true by simp [k1]] at this
    have hA : ∀ x ∈ s.Args, boundM t locals x false = true := fun x hx => by
      have := p3 x hx
      rwa [show decide (s.Kind = 1) = false by simp [k1]] at this
    have hX : ∀ x ∈ s.Args, RExpr x := fun x hx m hm => refExpr_ok t locals x (GStmt.wf_Args hw x hx) (hA x hx) m hm
    by_cases k9 : s.Kind = 9
    · obtain ⟨x, hx⟩ := shape_one p1 (.inl k9)
      by_cases he : s.Else = []
      · exact refIf0_of s x hx n hn (hX x (by simp [hx])) hB k9 he
      · exact refIf1_of s x hx n hn (hX x (by simp [hx])) hB hE k9 he
    by_cases k10 : s.Kind = 10
    · obtain ⟨x, hx⟩ := shape_one p1 (.inr (.inl k10))
      exact refWhile_of s x hx n hn (hX x (by simp [hx])) hB k10
    by_cases k11 : s.Kind = 11
    · obtain ⟨x, hx⟩ := shape_one p1 (.inr (.inr k11))
      have hnum : inR .i64 (s.Num + 1) := by
        have hnm : s.Name.toList = [] ∧ s.Num < locals - 1 := by
          unfold thereM at p2
          cases h : s.Name.toList with
          | nil => simp [h, k11] at p2; exact ⟨rfl, by omega⟩
          | cons a l => simp [h] at p2
        have h0 : 0 ≤ s.Num := by simp [thereM, hnm.1, k11] at p2; omega
        rw [inR_i64] at hlo ⊢
        omega
      exact refEachS_of s n k11 (refEach_of s x hx n hn hnum hw (hX x (by simp [hx])) hB k11)
    · exact refPlain_of s n hn k9 k10 k11 k1 (refExprs_of s.Args (by omega) n ⟨by omega, by omega⟩ (fun i h m hm => hX _ (List.getElem_mem h) m hm))
end Go.Ab

namespace Go.Ab
open Go.Proofs
set_option maxRecDepth 40000
set_option maxHeartbeats 4000000
end Go.Ab

namespace Go.Ab
open Go.Proofs
set_option maxRecDepth 40000
set_option maxHeartbeats 4000000
end Go.Ab

namespace Go.Ab
open Go.Proofs
set_option maxRecDepth 40000
set_option maxHeartbeats 4000000
section
variable {t : GTables} {locals : Int} {l : List GStmt}
theorem refBlock_ok (hlo : inR .i64 locals) (hl : ∀ s ∈ l, s.wf) (hlen : l.length * 104 ≤ 140737488351232) (hb : boundB t locals l = true) : RBlock l := by
  unfold boundB at hb
  rw [Bool.and_eq_true, boundSs_all, List.all_eq_true] at hb
  exact fun m hm => refBlock_of l (by omega) (fun s hs => refStmt_ok t locals hlo s (hl s hs) (hb.1 s hs)) m hm
end
theorem refBlockTop_ok (l : List GStmt) (hl : RBlock l) (hn : szB l ≤ 30000000) : Pure Tryz.prog 216 [.d (.sl (l.map GStmt.enc))] (.d (.sl ((genB l 0).1.map GIns.enc))) := by
  have hc := hl 0 ⟨by omega, by omega⟩
  unfold genT at hc
  generalize genB l 0 = q at *
  obtain ⟨q1, q2⟩ := q
  simp only at hc ⊢
  refine Pure.run Tryz.func216 rfl (by simp [Tryz.f216]) ?_; simp [Tryz.f216]
  refine AOps.pureC rfl (hc) rfl rfl (by simp) rfl ?_
  simp
theorem refRoutineTop_ok (l : List GStmt) (hl : RBlock l) (hn : szB l ≤ 30000000) : Pure Tryz.prog 149 [.d (.sl (l.map GStmt.enc))] (.d (.sl (((genB l 0).1 ++ [GIns.mk 1 0, GIns.mk 27 0]).map GIns.enc))) := by
  have hc := refBlockTop_ok l hl hn
  have bd := genB_bd' l 0
  generalize genB l 0 = q at *
  obtain ⟨q1, q2⟩ := q
  simp only at hc bd ⊢
  refine Pure.run Tryz.func149 rfl (by simp [Tryz.f149]) ?_; simp [Tryz.f149]
  refine AOps.pureC rfl (hc) rfl rfl (by simp) rfl ?_
  simp
  refine AOps.pureC rfl (code_ok 1 0) rfl rfl (by simp) rfl ?_
  simp
  refine AOps.pureC rfl (code_ok 27 0) rfl rfl (by simp) rfl ?_
  simp
  refine AOps.weaken (Wk.freeze 7 (ys := ([GIns.mk 1 0, GIns.mk 27 0]).map _) rfl) ?_
  simp
  refine AOps.pureC rfl (join_ok q1 [GIns.mk 1 0, GIns.mk 27 0] (by omega) (by simp)) (by simp) rfl (by simp) rfl ?_
  simp
end Go.Ab

namespace Go.Ab
open Go.Proofs
mutual
def hasKS (k : Int) : GStmt → Bool
  | .mk a _ _ _ b c => decide (a = k) || hasKB k b || hasKB k c
def hasKB (k : Int) : List GStmt → Bool
  | [] => false
  | s :: l => hasKS k s || hasKB k l
end
theorem hasKS_eq (k : Int) (s : GStmt) : hasKS k s = (decide (s.Kind = k) || hasKB k s.Body || hasKB k s.Else) := by cases s; rw [hasKS]; rfl
theorem hasKB_any (k : Int) (l : List GStmt) : hasKB k l = l.any (hasKS k) := by
  induction l with
  | nil => rw [hasKB]; rfl
  | cons s l ih => rw [hasKB, ih]; rfl
theorem hasKind_ok (k : Int) : ∀ (n : Nat) (l : List GStmt), SizeOf.sizeOf l < n → (∀ s ∈ l, s.wf) → l.length * 104 ≤ 140737488351232 → Pure Tryz.prog 94 [.d (.sl (l.map GStmt.enc)), intD k] (boolD (hasKB k l)) := by
  intro n
  induction n with
  | zero => intro l hn; omega
  | succ n ih =>
    intro l hn hl hlen
    have hsub : ∀ s ∈ l, Pure Tryz.prog 94 [.d (.sl (s.Body.map GStmt.enc)), intD k] (boolD (hasKB k s.Body)) ∧ Pure Tryz.prog 94 [.d (.sl (s.Else.map GStmt.enc)), intD k] (boolD (hasKB k s.Else)) := by
      intro s hs
      have h1 := List.sizeOf_lt_of_mem hs
      have hw := hl s hs
      have h2 := GStmt.lt_body s
      have h3 := GStmt.lt_else s
      exact ⟨ih s.Body (by omega) (GStmt.wf_Body hw) (GStmt.wl_Body hw), ih s.Else (by omega) (GStmt.wf_Else hw) (GStmt.wl_Else hw)⟩
    refine Pure.run Tryz.func94 rfl (by simp [Tryz.f94]) ?_; simp [-cB, Tryz.f94]
    refine AWP.loopL [0, 1, 5] l (fun pre => [(5, intD pre.length)]) (fun _ => []) (fun pre => pre.any (hasKS k) = false) (by rfl) (by omega) (by simp) ?_ ?_
    · rintro pre s post hsp hpre hlt hge a4
      have hS := hsub s (by rw [hsp]; simp)
      have hyes : hasKS k s = true → hasKB k l = true := fun h => by rw [hasKB_any, hsp]; simp [h]
      have hno : hasKS k s = false → (pre ++ [s]).any (hasKS k) = false := fun h => by rw [List.any_append, hpre]; simp [h]
      rw [hasKS_eq] at hyes hno
      have hsp' := hsp.symm
      clear ih hsub hlen hn hsp
      have hag : ∀ {f : FuncId} {args : List V} {x : V}, False → Pure Tryz.prog f args x := fun h => h.elim
      simp [-cB, hlt, hge]
      repeat' (first
        | (with_reducible refine And.intro ?_ ?_)
        | (refine condC_split (fun h => ?_) (fun h => ?_) <;> (try simp at h) <;> (try simp [-cB, *, hlt, hge]))
        | (refine AOps.pureC rfl (hS.1) rfl rfl (by simp) rfl ?_ <;> (try simp [-cB, *, hlt, hge]))
        | (refine AOps.pureC rfl (hS.2) rfl rfl (by simp) rfl ?_ <;> (try simp [-cB, *, hlt, hge]))
        | (refine AOps.lendC rfl (hS.1) rfl (by simp) rfl rfl (by simp) rfl ?_ <;> (try simp [-cB, *, hlt, hge]))
        | (refine AOps.lendC rfl (hS.2) rfl (by simp) rfl rfl (by simp) rfl ?_ <;> (try simp [-cB, *, hlt, hge]))
        | (refine AOps.pureG rfl (fun h => hS.1) rfl (by first | rfl | (simp; rfl)) (by simp) (by simp) rfl ?_ <;> (try simp [-cB, *, hlt, hge]))
        | (refine AOps.pureG rfl (fun h => hS.2) rfl (by first | rfl | (simp; rfl)) (by simp) (by simp) rfl ?_ <;> (try simp [-cB, *, hlt, hge]))
        | (with_reducible intro _))
      rename_i y hy
      have h2 := hno (by simp [h])
      rw [List.any_eq_false] at h2
      simpa using h2 y (by simpa using hy)
    · intro hall
      rw [hasKB_any, hall]
      simp
def ruledB (t : GTables) (i : Int) : Bool := t.Deeds.any fun d => decide (d.Body = i)
def calledB (t : GTables) (i : Int) : Bool := (t.Funcs.any fun f => decide (f = i)) || (t.Deeds.any fun d => decide (d.When = i)) || t.Things.any fun x => x.Ways.any fun w => decide (w.When = i)
theorem ruled_ok (t : GTables) (ht : t.wf) (i : Int) : Pure Tryz.prog 96 [.agg (t.enc.map .d), intD i] (boolD (ruledB t i)) := by
  have hlen := GTables.wl_Deeds ht
  refine Pure.run Tryz.func96 rfl (by simp [Tryz.f96]) ?_; simp [-cB, Tryz.f96]
  intro bs
  refine AWP.loopL [1, 2, 5] t.Deeds (fun pre => [(5, intD pre.length)]) (fun _ => []) (fun pre => (pre.any fun d => decide (d.Body = i)) = false) (by rfl) (by omega) (by simp) ?_ ?_
  · rintro pre s post hsp hpre hlt hge a4
    have hyes : s.Body = i → ruledB t i = true := fun h => by unfold ruledB; rw [hsp]; simp [h]
    have hno : ¬ s.Body = i → ((pre ++ [s]).any fun d => decide (d.Body = i)) = false := fun h => by rw [List.any_append, hpre]; simp [h]
    clear hsp
    by_cases h : s.Body = i
    · simp [hlt, hge, h, hyes h]
    · simp [hlt, hge, h]
      refine ⟨a4, fun y hy => ?_⟩
      have h2 := hno h
      rw [List.any_eq_false] at h2
      simpa using h2 y (by simpa using hy)
  · intro hall
    simp [ruledB, hall]
theorem called_ok (t : GTables) (ht : t.wf) (i : Int) : Pure Tryz.prog 95 [.agg (t.enc.map .d), intD i] (boolD (calledB t i)) := by
  have hlen := GTables.wl_Deeds ht
  have hlenF := GTables.wl_Funcs ht
  have hlenT := GTables.wl_Things ht
  have hwt := GTables.wf_Things ht
  refine Pure.run Tryz.func95 rfl (by simp [Tryz.f95]) ?_; simp [-cB, Tryz.f95]
  intro bs
  refine AWP.loopL [1, 2, 5] t.Funcs (fun pre => [(5, intD pre.length)]) (fun _ => []) (fun pre => (pre.any fun d => decide (d = i)) = false) (by rfl) (by omega) (by simp) ?_ ?_
  · rintro pre s post hsp hpre hlt hge a4
    have hyes : s = i → calledB t i = true := fun h => by unfold calledB; rw [hsp]; simp [h]
    have hno : ¬ s = i → ((pre ++ [s]).any fun d => decide (d = i)) = false := fun h => by rw [List.any_append, hpre]; simp [h]
    clear hsp
    by_cases h : s = i
    · simp [hlt, hge, h, hyes h]
    · simp [hlt, hge, h]
      refine ⟨a4, fun y hy => ?_⟩
      have h2 := hno h
      rw [List.any_eq_false] at h2
      simpa using h2 y (by simpa using hy)
  · intro hallF
    simp
    refine AWP.loopL [1, 2, 6] t.Deeds (fun pre => [(6, intD pre.length)]) (fun _ => []) (fun pre => (pre.any fun d => decide (d.When = i)) = false) (by rfl) (by omega) (by simp) ?_ ?_
    · rintro pre s post hsp hpre hlt hge a4
      have hyes : s.When = i → calledB t i = true := fun h => by unfold calledB; rw [hsp]; simp [h]
      have hno : ¬ s.When = i → ((pre ++ [s]).any fun d => decide (d.When = i)) = false := fun h => by rw [List.any_append, hpre]; simp [h]
      clear hsp
      by_cases h : s.When = i
      · simp [hlt, hge, h, hyes h]
      · simp [hlt, hge, h]
        refine ⟨a4, fun y hy => ?_⟩
        have h2 := hno h
        rw [List.any_eq_false] at h2
        simpa using h2 y (by simpa using hy)
    · intro hallD
      simp
      refine AWP.loopL [1, 2, 7] t.Things (fun pre => [(7, intD pre.length)]) (fun _ => []) (fun pre => (pre.any fun x => x.Ways.any fun w => decide (w.When = i)) = false) (by rfl) (by omega) (by simp) ?_ ?_
      · rintro pre s post hsp hpre hlt hge a4
        have hwl := GThing.wl_Ways (hwt s (by rw [hsp]; simp))
        have hyes : (s.Ways.any fun w => decide (w.When = i)) = true → calledB t i = true := fun h => by unfold calledB; rw [hsp]; simp only [List.any_append, List.any_cons, h]; simp
        have hno : (s.Ways.any fun w => decide (w.When = i)) = false → ((pre ++ [s]).any fun x => x.Ways.any fun w => decide (w.When = i)) = false := fun h => by rw [List.any_append, hpre]; simp only [List.any_cons, h, List.any_nil]; rfl
        clear hsp
        simp [hlt, hge]
        refine AWP.loopL [1, 2, 7, 8, 9] s.Ways (fun pre => [(9, intD pre.length)]) (fun _ => []) (fun pre => (pre.any fun w => decide (w.When = i)) = false) (by rfl) (by omega) (by simp) ?_ ?_
        · rintro pre' u post' hsp' hpre' hlt' hge' a4'
          have hyes' : u.When = i → calledB t i = true := fun h => hyes (by rw [hsp']; simp [h])
          have hno' : ¬ u.When = i → ((pre' ++ [u]).any fun d => decide (d.When = i)) = false := fun h => by rw [List.any_append, hpre']; simp [h]
          clear hsp' hyes hno
          by_cases h : u.When = i
          · simp [hlt', hge', h, hyes' h]
          · simp [hlt', hge', h]
            refine ⟨a4', fun y hy => ?_⟩
            have h2 := hno' h
            rw [List.any_eq_false] at h2
            simpa using h2 y (by simpa using hy)
        · intro hall
          have h3 := hno hall
          simp [a4]
          intro y hy
          rw [List.any_eq_false] at h3
          have := h3 y (by simpa using hy)
          simpa using this
      · intro hallT
        have : calledB t i = false := by unfold calledB; rw [hallF, hallD, hallT]; rfl
        simp [this]
end Go.Ab

namespace Go.Ab
open Go.Proofs
set_option maxRecDepth 40000
set_option maxHeartbeats 4000000
def stC (C : List GIns) (k : Int) : Nat := C.countP fun i => decide (i.Op = 38) && decide (i.Arg = k)
def akC (C : List GIns) (k : Int) : Nat := C.countP fun i => (decide (i.Op = 24) || decide (i.Op = 25)) && decide (i.Arg = k)
def nlC (C : List GIns) : Nat := C.countP fun i => decide (i.Op = 38)
def tkC (C : List GIns) : Nat := C.countP fun i => decide (i.Op = 37)
@[simp] theorem stC_nil (k : Int) : stC [] k = 0 := rfl
@[simp] theorem akC_nil (k : Int) : akC [] k = 0 := rfl
@[simp] theorem nlC_nil : nlC [] = 0 := rfl
@[simp] theorem tkC_nil : tkC [] = 0 := rfl
structure Lab (C : List GIns) (a b : Int) : Prop where
  le : a ≤ b
  st : ∀ k, (a ≤ k ∧ k < b → stC C k = 1) ∧ (¬ (a ≤ k ∧ k < b) → stC C k = 0)
  ak : ∀ k, (a ≤ k ∧ k < b → 0 < akC C k) ∧ (¬ (a ≤ k ∧ k < b) → akC C k = 0)
  nl : (nlC C : Int) = b - a
mutual
def sizeS : GStmt → Nat
  | .mk _ _ _ _ b c => 1 + sizeSs b + sizeSs c
def sizeSs : List GStmt → Nat
  | [] => 0
  | s :: l => sizeS s + sizeSs l
end
mutual
def eachS : GStmt → Nat
  | .mk k _ _ _ b c => (if k = 11 then 1 else 0) + (eachSs b + eachSs c)
def eachSs : List GStmt → Nat
  | [] => 0
  | s :: l => eachS s + eachSs l
end
end Go.Ab

namespace Go.Ab
theorem chainM_sub {nx : List Int} {n : Nat} : ∀ {k j : Nat} {c x : Int}, k ≤ j → x ∈ chainM nx n k c → x ∈ chainM nx n j c
  | 0, j, c, x, _, h => by simp [chainM] at h
  | k + 1, j, c, x, hj, h => by
    obtain ⟨j, rfl⟩ : ∃ i, j = i + 1 := ⟨j - 1, by omega⟩
    rw [chainM] at h ⊢
    split at h
    · rename_i hc
      rw [if_pos hc]
      rcases List.mem_cons.1 h with rfl | h
      · exact List.mem_cons_self
      · exact List.mem_cons_of_mem _ (chainM_sub (by omega) h)
    · cases h
theorem chainM_last {nx : List Int} {n : Nat} : ∀ {k : Nat} {c : Int}, (chainM nx n k c).length < k → isT n (match (chainM nx n k c).getLast? with | some y => atI nx y | none => c) = false
  | 0, c, h => by simp at h
  | k + 1, c, h => by
    rw [chainM] at h ⊢
    by_cases hc : isT n c = true
    · rw [if_pos hc] at h ⊢
      have h1 := chainM_last (nx := nx) (n := n) (k := k) (c := atI nx c) (by simpa using h)
      rw [List.getLast?_cons]
      cases hl : (chainM nx n k (atI nx c)).getLast? with
      | none => simpa [hl] using h1
      | some y => simpa [hl] using h1
    · rw [if_neg hc]
      simpa using hc
theorem chainM_nodup {nx : List Int} {n : Nat} (ha : ∀ y, isT n y = true → y ∉ chainM nx n n (atI nx y)) : ∀ {k : Nat} {c : Int}, k ≤ n → (chainM nx n k c).Nodup
  | 0, c, _ => by simp [chainM]
  | k + 1, c, hk => by
    rw [chainM]
    split
    · rename_i hc
      exact List.nodup_cons.2 ⟨fun hm => ha c hc (chainM_sub (by omega) hm), chainM_nodup ha (by omega)⟩
    · simp
theorem chain_ends {nx : List Int} {n : Nat} (h0 : atI nx 0 = 0) (hu : ∀ y, isT n y = true → atI nx y = 0 ∨ isT n (atI nx y) = true) (ha : ∀ y, isT n y = true → y ∉ chainM nx n n (atI nx y)) {x : Int} (hx : isT n x = true) : Ch nx n x (chainM nx n n x) := by
  have hnd : (chainM nx n n x).Nodup := chainM_nodup ha (Nat.le_refl _)
  refine chain_ch h0 (.inr ⟨hnd, Nat.le_refl _⟩) ?_
  have hb := isT_iff.1 hx
  have hlen : (chainM nx n n x).length < n := by
    rcases nodup_lt hnd (fun x hx => chainM_mem hx) with h | h
    · exact h
    · rw [h]; simp; omega
  have hl := chainM_last hlen
  cases hg : (chainM nx n n x).getLast? with
  | none =>
    rw [hg] at hl
    simp only at hl
    rw [hx] at hl
    cases hl
  | some y =>
    rw [hg] at hl
    simp only at hl ⊢
    rcases hu y (isT_iff.2 (chainM_mem (List.mem_of_getLast? hg))) with h | h
    · exact h
    · rw [hl] at h; cases h
theorem Nest.of_nestedB {t : Tree} (h : nestedB t = true) : Nest t t.Par.length (kidsM t) := by
  unfold nestedB at h
  simp only [Bool.and_eq_true, decide_eq_true_eq, List.all_eq_true, List.mem_range] at h
  obtain ⟨⟨⟨⟨⟨⟨h1, h2⟩, h3⟩, h4⟩, h5⟩, h6⟩, h7⟩ := h
  have node : ∀ x : Int, 1 ≤ x → x < t.Par.length → nodeB t x = true := by
    intro x a b
    have := h7 (x.toNat - 1) (by omega)
    rwa [show (((x.toNat - 1 : Nat) : Int) + 1) = x by omega] at this
  have parts : ∀ x : Int, 1 ≤ x → x < t.Par.length → (atI t.Par x = 0 ∨ isT t.Par.length (atI t.Par x) = true) ∧ (atI t.Par x = 0 → atI t.Nxt x = 0) ∧ listedB t x = true ∧ (atI t.Par x ≠ 0 → x ∈ kidsM t (atI t.Par x)) ∧ (isT t.Par.length (atI t.Par x) = true → x ∉ upsM t (atI t.Par x)) := by
    intro x a b
    have := node x a b
    unfold nodeB at this
    simp only [Bool.and_eq_true, Bool.not_eq_true', Bool.and_eq_false_iff, decide_eq_false_iff_not, Bool.not_eq_false', Decidable.not_not] at this
    obtain ⟨⟨⟨⟨n1, n2⟩, n3⟩, n4⟩, n5⟩ := this
    refine ⟨n1, fun e => ?_, n3, fun e => ?_, fun e => ?_⟩
    · rcases n2 with n2 | n2
      · exact (n2 e).elim
      · exact n2
    · rcases n4 with n4 | n4
      · exact (e n4).elim
      · exact List.count_pos_iff.1 (by omega)
    · rcases n5 with n5 | n5
      · rw [e] at n5; cases n5
      · exact n5
  have up : ∀ y, isT t.Par.length y = true → atI t.Par y = 0 ∨ isT t.Par.length (atI t.Par y) = true := fun y hy => (parts y (isT_iff.1 hy).1 (isT_iff.1 hy).2).1
  have listed : ∀ x : Int, 1 ≤ x → x < t.Par.length → (∀ y ∈ kidsM t x, atI t.Par y = x ∧ (kidsM t x).count y = 1) ∧ (match (kidsM t x).getLast? with | some y => atI t.Nxt y | none => atI t.Chi x) = 0 := by
    intro x a b
    have := (parts x a b).2.2.1
    rw [listedB_eq, Bool.and_eq_true, List.all_eq_true, decide_eq_true_eq] at this
    refine ⟨fun y hy => ?_, this.2⟩
    have h := this.1 y hy
    unfold listedP at h
    simpa using h
  refine ⟨by omega, rfl, h2, h3, h4, h5, h6, fun x a b => ?_, fun x a b y hy => ((listed x a b).1 y hy).1, fun x a b => ?_, fun x a b => ?_⟩
  · have hk : kidsM t x = chainM t.Nxt t.Par.length t.Par.length (atI t.Chi x) := by rw [kidsM, if_pos (isT_iff.2 ⟨a, b⟩)]
    have hl := listed x a b
    rw [hk] at hl ⊢
    refine chain_ch h6 (.inr ⟨?_, Nat.le_refl _⟩) hl.2
    rw [List.nodup_iff_count]
    intro y
    by_cases hy : y ∈ chainM t.Nxt t.Par.length t.Par.length (atI t.Chi x)
    · rw [(hl.1 y hy).2]; exact Nat.le_refl _
    · rw [List.count_eq_zero.2 hy]; omega
  · obtain ⟨p1, p2, p3, p4, p5⟩ := parts x a b
    rcases p1 with e | e
    · exact .inl ⟨e, p2 e⟩
    · exact .inr ⟨isT_iff.1 e, p4 (by have := isT_iff.1 e; omega)⟩
  · refine ⟨_, chain_ends h4 up (fun y hy => ?_) (isT_iff.2 ⟨a, b⟩)⟩
    obtain ⟨p1, p2, p3, p4, p5⟩ := parts y (isT_iff.1 hy).1 (isT_iff.1 hy).2
    rcases p1 with e | e
    · rw [e]
      have : ¬ y ∈ chainM t.Par t.Par.length t.Par.length 0 := by
        intro hm
        cases hn : t.Par.length with
        | zero => rw [hn] at hm; simp [chainM] at hm
        | succ k => rw [hn, chainM] at hm; simp [isT] at hm
      exact this
    · exact p5 e
end Go.Ab

namespace Go.Ab
theorem Ch.head {nx : List Int} {n : Nat} {c : Int} {l : List Int} (h : Ch nx n c l) : c = 0 ∨ (1 ≤ c ∧ c < n) := by
  cases h with
  | nil => exact .inl rfl
  | cons h t => exact .inr h
theorem Ch.nextB {nx : List Int} {n : Nat} {c : Int} {l : List Int} (h : Ch nx n c l) : ∀ y ∈ l, atI nx y = 0 ∨ (1 ≤ atI nx y ∧ atI nx y < n) := by
  induction h with
  | nil => simp
  | @cons c l h t ih =>
    intro y hy
    rcases List.mem_cons.1 hy with rfl | hy
    · exact t.head
    · exact ih y hy
theorem mem_atI {l : List Int} {y : Int} (h : y ∈ l) : ∃ i : Int, 0 ≤ i ∧ i < l.length ∧ atI l i = y := by
  obtain ⟨k, hk, rfl⟩ := List.getElem_of_mem h
  refine ⟨k, by omega, by omega, ?_⟩
  rw [atI, if_neg (by omega)]
  simp [List.getElem?_eq_getElem hk]
structure OkW (t : GTables) (w : GWorld) : Prop where
  wf : w.wf
  nest : Nest w.tree w.Parent.length (kidsM w.tree)
  hC : w.Child.length = w.Parent.length
  hN : w.Next.length = w.Parent.length
  hT : w.Parent.length = t.Things.length
  hF : w.Flags.length = t.Things.length
  hP : w.Props.length = t.Things.length * t.Props.length
  hG : w.Globals.length = t.Globals.length
  hD : w.Timers.length = t.Daemons.length
  hn : 3 ≤ t.Things.length ∧ t.Things.length ≤ 128
  hp : t.Props.length ≤ 16
  g16 : ∀ x ∈ w.Globals, -32768 ≤ x ∧ x ≤ 32767
  p16 : ∀ x ∈ w.Props, -32768 ≤ x ∧ x ≤ 32767
  fl : ∀ x ∈ w.Flags, 0 ≤ x ∧ x ≤ bitsM t.Flags - 1
  tm : ∀ x ∈ w.Timers, 0 ≤ x ∧ x ≤ 32767
  sc : -32768 ≤ w.Score ∧ w.Score ≤ 32767
  tu : 0 ≤ w.Turns ∧ w.Turns ≤ 2147483647
  ov : 0 ≤ w.Over ∧ w.Over ≤ 3
  it : 0 ≤ w.It ∧ w.It < t.Things.length
  go : 0 ≤ w.Go ∧ w.Go ≤ 12
  pl : placedM t w = true
theorem fits_dims {t : GTables} (hf : fitsB t = true) : (3 ≤ t.Things.length ∧ t.Things.length ≤ 128) ∧ t.Props.length ≤ 16 ∧ t.Globals.length ≤ 64 ∧ t.Daemons.length ≤ 16 ∧ t.Texts.length ≤ 4096 ∧ t.Params.length = t.Locals.length ∧ t.Params.length ≤ 2048 ∧ t.Funcs.length ≤ 64 ∧ (4 ≤ t.Flags ∧ t.Flags ≤ 16) := by
  unfold fitsB headB thingsB rulesB at hf
  simp only [Bool.and_eq_true, decide_eq_true_eq, fromB] at hf
  omega
theorem OkW.of {t : GTables} {w : GWorld} (hf : fitsB t = true) (h : rightB t w = true) (hs : 0 ≤ w.Seed ∧ w.Seed < 18446744073709551616) : OkW t w := by
  obtain ⟨d1, d2, d3, d4, d5, d6, d7, d8, d9⟩ := fits_dims hf
  unfold rightB at h
  simp only [Bool.and_eq_true, decide_eq_true_eq, fromB, allB, List.all_eq_true, int16] at h
  obtain ⟨⟨⟨⟨⟨⟨⟨h1, h2⟩, h3⟩, h4⟩, h5⟩, h6⟩, ⟨⟨⟨⟨⟨h7, h8⟩, h9⟩, h10⟩, h11⟩, h12⟩⟩, ⟨⟨⟨h13, h14⟩, h15⟩, h16⟩⟩ := h
  have hn := Nest.of_nestedB h6
  have e1 : w.tree.Par = w.Parent := rfl
  have e2 : w.tree.Chi = w.Child := rfl
  have e3 : w.tree.Nxt = w.Next := rfl
  rw [e1] at hn
  have lc : w.Child.length = w.Parent.length := hn.lc
  have ln : w.Next.length = w.Parent.length := hn.ln
  have hbit := bitsM_le t.Flags
  have small : ∀ y : Int, y = 0 ∨ (1 ≤ y ∧ y < w.Parent.length) → inR .i64 y := by intro y hy; rw [inR_i64]; omega
  have hpar : ∀ x : Int, 0 ≤ x → x < w.Parent.length → atI w.Parent x = 0 ∨ (1 ≤ atI w.Parent x ∧ atI w.Parent x < w.Parent.length) := by
    intro x a b
    by_cases h0 : x = 0
    · subst h0; exact .inl hn.p0
    · rcases hn.up x (by omega) b with h | h
      · exact .inl h.1
      · exact .inr h.1
  have hchi : ∀ x : Int, 0 ≤ x → x < w.Parent.length → atI w.Child x = 0 ∨ (1 ≤ atI w.Child x ∧ atI w.Child x < w.Parent.length) := by
    intro x a b
    by_cases h0 : x = 0
    · subst h0; exact .inl hn.c0
    · exact (hn.ch x (by omega) b).head
  have hnxt : ∀ x : Int, 0 ≤ x → x < w.Parent.length → atI w.Next x = 0 ∨ (1 ≤ atI w.Next x ∧ atI w.Next x < w.Parent.length) := by
    intro x a b
    by_cases h0 : x = 0
    · subst h0; exact .inl hn.n0
    · rcases hn.up x (by omega) b with h | h
      · exact .inl h.2
      · exact (hn.ch _ h.1.1 h.1.2).nextB x h.2
  have i16 : ∀ y : Int, (-32768 ≤ y ∧ y ≤ 32767) → inR .i64 y := by intro y hy; rw [inR_i64]; omega
  have hprod : t.Things.length * t.Props.length ≤ 128 * 16 := Nat.mul_le_mul d1.2 d2
  refine ⟨?_, hn, lc, ln, h2, h3, h4, h1, h5, d1, d2, h7, h8, h9, h10, h11, h12, h13, ?_, h15, h16⟩
  · unfold GWorld.wf
    refine ⟨by omega, fun y hy => i16 y (h7 y hy), by omega, fun y hy => ?_, by omega, fun y hy => ?_, by omega, fun y hy => ?_, by omega, fun y hy => ?_, by omega, fun y hy => i16 y (h8 y hy), by omega, fun y hy => ?_, ?_, i16 _ h11, ?_, ?_, ?_, ?_⟩
    · obtain ⟨i, a, b, rfl⟩ := mem_atI hy; exact small _ (hpar i a b)
    · obtain ⟨i, a, b, rfl⟩ := mem_atI hy; exact small _ (hchi i a (by omega))
    · obtain ⟨i, a, b, rfl⟩ := mem_atI hy; exact small _ (hnxt i a (by omega))
    · have := h9 y hy; rw [inR_i64]; omega
    · have := h10 y hy; rw [inR_i64]; omega
    · simp only [inR]; exact ⟨hs.1, by have := hs.2; show w.Seed ≤ 18446744073709551615; omega⟩
    · rw [inR_i64]; omega
    · rw [inR_i64]; omega
    · rw [inR_i64]; omega
    · rw [inR_i64]; omega
  · omega
end Go.Ab

namespace Go.Ab
def evP (S L : List Int) (σ : MS) (p : Int × Int) : Ev := if p.2 = 0 then .ok (wrapM p.1 :: S) L σ else .thr p.2
def evO (v : Bool) (S L : List Int) (σ : MS) : Option (GWorld × OC) → Option Ev
  | some (w, .nrm n) => some (.ok (if v then wrapM n :: S else S) L { σ with W := w })
  | some (_, .thr e) => some (.thr e)
  | some (w, .over) => some (.over { σ with W := w })
  | _ => none
def evT (S L : List Int) (σ : MS) (s : ByteArray) : Option Ev := if σ.Out.size + s.size ≤ 140737488355328 then some (.ok S L { σ with Out := σ.Out ++ s }) else none
def valK (op : Int) : Int := if op = 3 then 14 else if op = 7 then 12 else if op = 12 then 16 else if op = 13 then 17 else if op = 19 then 10 else if op = 20 then 11 else 0
def chgK (op : Int) : Int :=
  if op = 4 then 23 else if op = 14 then 4 else if op = 15 then 5 else if op = 16 then 6 else if op = 17 then 7 else if op = 18 then 8 else if op = 28 then 13 else if op = 29 then 14 else if op = 30 then 15
  else if op = 31 then 16 else if op = 32 then 17 else if op = 33 then 18 else if op = 34 then 20 else 0
def takes (op : Int) : Nat := if op = 3 ∨ op = 7 ∨ op = 28 ∨ op = 29 ∨ op = 30 ∨ op = 33 then 0 else if op = 14 ∨ op = 17 then 2 else 1
def instJ (c : XC) (i : GIns) (S L : List Int) (σ : MS) : Option Ev :=
  if i.Op = 1 then some (.ok (wrapM i.Arg :: S) L σ)
  else if i.Op = 37 then (if 0 ≤ σ.Fuel ∧ σ.Fuel ≤ 1099511627776 then if c.M < σ.Fuel + 1 then some (.thr 19) else some (.ok S L { σ with Fuel := σ.Fuel + 1 }) else none)
  else if i.Op = 5 then (if inL L i.Arg then some (.ok (wrapM (getI L i.Arg) :: S) L σ) else none)
  else if i.Op = 21 then evT S L σ (textT c.B.Tables i.Arg)
  else if i.Op = 35 then (if okW c σ.W = true then evT S L σ (lookM c.B.Tables σ.W) else none)
  else if takes i.Op = 0 then (if valK i.Op ≠ 0 then evO true S L σ (valW c σ.W (valK i.Op) i.Arg []) else if chgK i.Op ≠ 0 then evO false S L σ (chgW c σ.W (chgK i.Op) i.Arg []) else none)
  else match S with
    | [] => none
    | v :: S =>
      if i.Op = 2 then some (.ok S L σ)
      else if i.Op = 6 then (if inL L i.Arg then some (.ok S (L.set i.Arg.toNat v) σ) else none)
      else if i.Op = 9 then some (.ok (wrapM (negM v) :: S) L σ)
      else if i.Op = 10 then some (.ok (notM v :: S) L σ)
      else if i.Op = 11 then some (.ok (tru (decide (v ≠ 0)) :: S) L σ)
      else if i.Op = 22 then evT S L σ (numT v)
      else if i.Op = 23 then evT S L σ (titleT c.B.Tables v)
      else if i.Op = 36 then (if okW c σ.W = true then evT S L σ (listM c.B.Tables σ.W v) else none)
      else if i.Op = 8 then (match S with
        | [] => none
        | u :: S => if i.Arg = 9 ∧ okW c σ.W = false then none else some (evP S L σ (binR σ.W i.Arg u v)))
      else if takes i.Op = 2 then (match S with
        | [] => none
        | u :: S => if chgK i.Op ≠ 0 then evO false S L σ (chgW c σ.W (chgK i.Op) i.Arg [u, v]) else none)
      else if valK i.Op ≠ 0 then evO true S L σ (valW c σ.W (valK i.Op) i.Arg [v])
      else if chgK i.Op ≠ 0 then evO false S L σ (chgW c σ.W (chgK i.Op) i.Arg [v])
      else none
def machX (c : XC) : Mach where
  J := instJ c
  fn a := if inL c.B.Tables.Funcs a then getI c.B.Tables.Funcs a else -1
  pa r := (getI c.B.Tables.Params r).toNat
  lo r a := a.map wrapM ++ List.replicate ((getI c.B.Tables.Locals r).toNat - a.length) 0
def codeX (b : GBook) (r : Int) : List GIns := if inL b.Routines r then (genB (b.Routines[r.toNat]?.getD []) 0).1 ++ [⟨1, 0⟩, ⟨27, 0⟩] else []
def msX (σ : XS) : MS := ⟨σ.W, σ.Out, σ.Fuel⟩
def GoX (c : XC) (d : Nat) (l r : List GIns) (S L : List Int) (σ : MS) (r' : List GIns) (S' L' : List Int) (σ' : MS) : Prop :=
  ∀ g o k, run (machX c) (codeX c.B) g d l r' S' L' σ' = some (o, k) → ∃ g' k', run (machX c) (codeX c.B) g' d l r S L σ = some (o, k')
def StopX (c : XC) (d : Nat) (l r : List GIns) (S L : List Int) (σ : MS) (o : Oc) : Prop := ∃ g k, run (machX c) (codeX c.B) g d l r S L σ = some (o, k)
end Go.Ab

namespace Go.Ab
open Go.Proofs
def codeM (b : GBook) (i : Int) : List Int × Int := if i < 0 ∨ (b.Routines.length : Int) ≤ i then ([], 11) else asmM (peepM (codeX b i))
theorem codeOf_ok (b : GBook) (hb : b.wf) (hR : ∀ l ∈ b.Routines, RBlock l ∧ szB l ≤ 30000000) (i : Int) : Pure Tryz.prog 97 [.agg (b.enc.map .d), intD i] (.tup [bytD (codeM b i).1, intD (codeM b i).2]) := by
  have hlen := GBook.wl_Routines hb
  by_cases hi : i < 0 ∨ (b.Routines.length : Int) ≤ i
  · have hc : codeM b i = ([], 11) := by unfold codeM; rw [if_pos hi]
    rw [hc]
    refine Pure.run Tryz.func97 rfl (by simp [Tryz.f97]) ?_; simp [-cB, Tryz.f97]
    intro bs
    repeat' (first
      | (with_reducible refine And.intro ?_ ?_)
      | (refine condC_split (fun h => ?_) (fun h => ?_) <;> (try simp at h) <;> (try simp [-cB, *]))
      | (with_reducible intro _))
    · rfl
    · omega
  · have hc : codeM b i = asmM (peepM (codeX b i)) := by unfold codeM; rw [if_neg hi]
    rw [hc]
    have hil : i.toNat < b.Routines.length := by omega
    obtain ⟨h1, h2⟩ := hR b.Routines[i.toNat] (List.getElem_mem hil)
    have hcx : codeX b i = (genB b.Routines[i.toNat] 0).1 ++ [⟨1, 0⟩, ⟨27, 0⟩] := by
      unfold codeX
      rw [if_pos (by unfold inL; omega), List.getElem?_eq_getElem hil]
      rfl
    have bd := genB_bd' b.Routines[i.toNat] 0
    have hl : (codeX b i).length ≤ 1000000000 := by rw [hcx]; simp; omega
    have hg := refRoutineTop_ok b.Routines[i.toNat] h1 h2
    rw [← hcx] at hg
    have ha := all29_ok (codeX b i) (by omega)
    have hp : (peepM (codeX b i)).length ≤ (codeX b i).length := allM_len _ _
    have hs := assemble30_ok (peepM (codeX b i)) (by omega)
    refine Pure.run Tryz.func97 rfl (by simp [Tryz.f97]) ?_; simp [-cB, Tryz.f97]
    intro bs
    have hi1 : ¬ i < 0 := by omega
    have hi2 : ¬ (b.Routines.length : Int) ≤ i := by omega
    simp [-cB, hi1, hi2, List.getElem?_eq_getElem hil]
    refine ⟨by omega, ?_⟩
    refine AOps.pureC rfl (hg) rfl rfl (by simp) rfl ?_
    simp
    refine AOps.pureC rfl (ha) rfl rfl (by simp) rfl ?_
    simp
    refine AOps.pureC rfl (hs) rfl rfl (by simp) rfl ?_
    simp
end Go.Ab

namespace Go.Ab
open Go.Proofs
def goodR (b : GBook) (i : Nat) : Bool :=
  (decide (deepB (b.Routines[i]?.getD []) 65 ≤ 32) && boundB b.Tables (b.Tables.Locals[i]?.getD 0) (b.Routines[i]?.getD [])) && (!hasKB 12 (b.Routines[i]?.getD []) || calledB b.Tables i) && (!hasKB 13 (b.Routines[i]?.getD []) || ruledB b.Tables i)
def rightBookB (b : GBook) : Bool := fitsB b.Tables && decide (b.Routines.length = b.Tables.Params.length) && (List.range b.Routines.length).all (goodR b)
theorem rightBook_ok (b : GBook) (hb : b.wf) : Pure Tryz.prog 43 [.agg (b.enc.map .d)] (boolD (rightBookB b)) := by
  have ht := GBook.wf_Tables hb
  have hlen := GBook.wl_Routines hb
  have hlenP := GTables.wl_Params ht
  have hfit := refFits_ok b.Tables ht
  obtain ⟨R, hR⟩ : ∃ R, rightBookB b = R := ⟨_, rfl⟩
  have hRd := hR
  unfold rightBookB at hRd
  rw [hR]
  cases hf : fitsB b.Tables with
  | false =>
    rw [hf] at hRd hfit
    simp at hRd
    refine Pure.run Tryz.func43 rfl (by simp [Tryz.f43]) ?_; simp [-cB, Tryz.f43]
    intro bs
    repeat' (first
      | (with_reducible refine And.intro ?_ ?_)
      | (refine condC_split (fun h => ?_) (fun h => ?_) <;> (try simp at h) <;> (try simp [-cB, *, hRd]))
      | (refine AOps.pureC rfl (hfit) rfl rfl (by simp) rfl ?_ <;> (try simp [-cB, *, hRd]))
      | (refine AOps.lendC rfl (hfit) rfl (by simp) rfl rfl (by simp) rfl ?_ <;> (try simp [-cB, *, hRd]))
      | (refine AOps.pureG rfl (fun h => hfit) rfl (by first | rfl | (simp; rfl)) (by simp) (by simp) rfl ?_ <;> (try simp [-cB, *, hRd]))
      | (with_reducible intro _))
  | true =>
    have hd := (fits_dims hf).2.2.2.2.2.1
    rw [hf] at hRd hfit
    by_cases hL : b.Routines.length = b.Tables.Params.length
    · rw [show decide (b.Routines.length = b.Tables.Params.length) = true by simpa using hL] at hRd
      simp only [Bool.true_and] at hRd
      refine Pure.run Tryz.func43 rfl (by simp [Tryz.f43]) ?_; simp [-cB, Tryz.f43]
      intro bs
      repeat' (first
        | (with_reducible refine And.intro ?_ ?_)
        | (refine condC_split (fun h => ?_) (fun h => ?_) <;> (try simp at h) <;> (try simp [-cB, *, hL, hlenP]))
        | (refine AOps.pureC rfl (hfit) rfl rfl (by simp) rfl ?_ <;> (try simp [-cB, *, hL, hlenP]))
        | (refine AOps.lendC rfl (hfit) rfl (by simp) rfl rfl (by simp) rfl ?_ <;> (try simp [-cB, *, hL, hlenP]))
        | (refine AOps.pureG rfl (fun h => hfit) rfl (by first | rfl | (simp; rfl)) (by simp) (by simp) rfl ?_ <;> (try simp [-cB, *, hL, hlenP]))
        | (with_reducible intro _))
      refine AWP.loopS [1, 3, 4] b.Routines.length (fun i => [(4, intD i)]) (fun _ => []) (fun i => ∀ j, j < i → goodR b j = true) (by rfl) (by simp) ?_
      intro i hi hH
      rcases Nat.lt_or_eq_of_le hi with hlt | heq
      · have hlt' : (i : Int) < b.Routines.length := by omega
        have h64 : inR .i64 ((i : Int) + 1) := by rw [inR_i64]; omega
        have hiL : i < b.Tables.Locals.length := by omega
        obtain ⟨l, hl⟩ : ∃ l, b.Routines[i] = l := ⟨_, rfl⟩
        obtain ⟨n, hn⟩ : ∃ n, b.Tables.Locals[i] = n := ⟨_, rfl⟩
        obtain ⟨w1, w2⟩ := GBook.wf_Routines hb l (hl ▸ List.getElem_mem hlt)
        have hnr := GTables.wf_Locals ht n (hn ▸ List.getElem_mem hiL)
        have hbd := refBoundB_ok b.Tables ht n hnr l w2 w1
        have hk12 := hasKind_ok 12 _ l (Nat.lt_succ_self _) w2 w1
        have hk13 := hasKind_ok 13 _ l (Nat.lt_succ_self _) w2 w1
        have hca := called_ok b.Tables ht i
        have hru := ruled_ok b.Tables ht i
        have hg : goodR b i = ((decide (deepB l 65 ≤ 32) && boundB b.Tables n l) && (!hasKB 12 l || calledB b.Tables i) && (!hasKB 13 l || ruledB b.Tables i)) := by
          unfold goodR
          rw [List.getElem?_eq_getElem hlt, hl, List.getElem?_eq_getElem hiL, hn]
          rfl
        generalize (decide (deepB l 65 ≤ 32) && boundB b.Tables n l) = B1 at *
        generalize hasKB 12 l = B2 at *
        generalize calledB b.Tables i = B3 at *
        generalize hasKB 13 l = B4 at *
        generalize ruledB b.Tables i = B5 at *
        have hno : goodR b i = false → R = false := fun h => by
          rw [← hRd, List.all_eq_false]
          exact ⟨i, by simpa using hlt, by simp [h]⟩
        have hyes : goodR b i = true → ∀ j, j < i + 1 → goodR b j = true := fun h j hj => by
          rcases Nat.lt_or_eq_of_le (Nat.le_of_lt_succ hj) with h1 | rfl
          · exact hH j h1
          · exact h
        rw [hg] at hno hyes
        clear hg hH hRd hR hL
        simp [-cB, hlt, hlt', hl]
        refine AWP.regionD [boolD B1, boolD B2, boolD B3, boolD B4, boolD B5] Tryz.mixed (by kernel_rfl) (by rfl) ?_
        simp [hbd.ok, hk12.ok, hca.ok, hk13.ok, hru.ok, hiL, hn]
        clear hbd hk12 hca hk13 hru hfit
        cases B1 <;> cases B2 <;> cases B3 <;> cases B4 <;> cases B5 <;> simp at hno hyes ⊢ <;> first | exact hno | exact ⟨h64, hlt, hyes⟩
      · simp [heq]
        rw [← hRd, List.all_eq_true]
        intro j hj
        exact hH j (by rw [heq]; simpa using hj)
    · rw [show decide (b.Routines.length = b.Tables.Params.length) = false by simpa using hL] at hRd
      simp at hRd
      have hL2 : ((b.Routines.length : Int) != (b.Tables.Params.length : Int)) = true := by simp; omega
      refine Pure.run Tryz.func43 rfl (by simp [Tryz.f43]) ?_; simp [-cB, Tryz.f43]
      intro bs
      repeat' (first
        | (with_reducible refine And.intro ?_ ?_)
        | (refine condC_split (fun h => ?_) (fun h => ?_) <;> (try simp at h) <;> (try simp [-cB, *, hL, hRd, hL2]))
        | (refine AOps.pureC rfl (hfit) rfl rfl (by simp) rfl ?_ <;> (try simp [-cB, *, hL, hRd, hL2]))
        | (refine AOps.lendC rfl (hfit) rfl (by simp) rfl rfl (by simp) rfl ?_ <;> (try simp [-cB, *, hL, hRd, hL2]))
        | (refine AOps.pureG rfl (fun h => hfit) rfl (by first | rfl | (simp; rfl)) (by simp) (by simp) rfl ?_ <;> (try simp [-cB, *, hL, hRd, hL2]))
        | (with_reducible intro _))
      exact absurd (by omega) hL
end Go.Ab

namespace Go.Ab
open Go.Proofs
def stM (b : GBook) : Nat → List Int × List Int
  | 0 => ([], [])
  | i + 1 => ((stM b i).1 ++ [((stM b i).2.length : Int)], (stM b i).2 ++ (codeM b i).1)
def firstE (b : GBook) : Nat → Nat → Int
  | 0, _ => 0
  | n + 1, i => if (codeM b i).2 = 0 then firstE b n (i + 1) else (codeM b i).2
def storyM (b : GBook) : GStory × Int :=
  if rightBookB b = false then (GStory.zero, 18)
  else if firstE b b.Routines.length 0 ≠ 0 then (GStory.zero, firstE b b.Routines.length 0)
  else if 65536 < (stM b b.Routines.length).2.length then (GStory.zero, 3)
  else (⟨b.Tables, (stM b b.Routines.length).1, (stM b b.Routines.length).2⟩, 0)
theorem ons_app (ks : List Nat) : ∀ (a b : List V), V.ons ks (a ++ b) = (V.ons ks a && V.ons ks b)
  | [], b => by simp [V.ons]
  | x :: a, b => by simp [V.ons, ons_app ks a b, Bool.and_assoc]
theorem asm_len (l : List GIns) : (asmM l).1.length ≤ 3 * l.length := by
  obtain ⟨z, hz, hf, _⟩ := sizesM_ok (3 * l.length + 1) (zipZ l) (zipZ_ok l) (by simp [zipZ]; omega)
  rw [zipZ_fst] at hf
  have hzl : z.length = l.length := by simpa using congrArg List.length hf
  have := codeZ_le z 0 z
  unfold asmM
  split
  · simp
  · rw [hz]
    simp only
    split
    · simp
    · split
      · simp
      · simp only; omega
theorem code_len (b : GBook) (hR : ∀ l ∈ b.Routines, RBlock l ∧ szB l ≤ 30000000) (i : Int) : (codeM b i).1.length ≤ 2000000000 := by
  unfold codeM
  split
  · simp
  · rename_i hi
    have hil : i.toNat < b.Routines.length := by omega
    obtain ⟨_, h2⟩ := hR b.Routines[i.toNat] (List.getElem_mem hil)
    have h1 := asm_len (peepM (codeX b i))
    have hp : (peepM (codeX b i)).length ≤ (codeX b i).length := allM_len _ _
    have bd := genB_bd' b.Routines[i.toNat] 0
    have hcx : codeX b i = (genB b.Routines[i.toNat] 0).1 ++ [⟨1, 0⟩, ⟨27, 0⟩] := by
      unfold codeX
      rw [if_pos (by unfold inL; omega), List.getElem?_eq_getElem hil]
      rfl
    have hl : (codeX b i).length ≤ 500000000 := by rw [hcx]; simp; omega
    omega
theorem st_len (b : GBook) (hR : ∀ l ∈ b.Routines, RBlock l ∧ szB l ≤ 30000000) : ∀ i : Nat, (stM b i).1.length = i ∧ (stM b i).2.length ≤ 2000000000 * i
  | 0 => ⟨rfl, Nat.le_refl _⟩
  | i + 1 => by
    obtain ⟨h1, h2⟩ := st_len b hR i
    have h3 := code_len b hR i
    rw [stM]
    constructor
    · simp [h1]
    · simp only [List.length_append]; omega
theorem storyOf_ok (b : GBook) (hb : b.wf) (hR : ∀ l ∈ b.Routines, RBlock l ∧ szB l ≤ 30000000) : Pure Tryz.prog 44 [.agg (b.enc.map .d)] (.tup [.agg ((storyM b).1.enc.map .d), intD (storyM b).2]) := by
  have hrb := rightBook_ok b hb
  obtain ⟨S, hS⟩ : ∃ S, storyM b = S := ⟨_, rfl⟩
  have hSd := hS
  unfold storyM at hSd
  rw [hS]
  cases hr : rightBookB b with
  | false =>
    rw [hr] at hrb hSd
    simp at hSd
    refine Pure.run Tryz.func44 rfl (by simp [Tryz.f44]) ?_; simp [-cB, Tryz.f44]
    intro bs
    refine AOps.pureC rfl (hrb) rfl rfl (by simp) rfl ?_
    simp
    rw [← hSd]; exact ⟨rfl, rfl⟩
  | true =>
    have hn : b.Routines.length ≤ 2048 := by
      unfold rightBookB at hr
      simp only [Bool.and_eq_true, decide_eq_true_eq] at hr
      have := (fits_dims hr.1.1).2.2.2.2.2.2.1
      omega
    rw [hr] at hrb hSd
    simp only [Bool.true_eq_false, if_false] at hSd
    have hfE : firstE b (b.Routines.length - 0) 0 = firstE b b.Routines.length 0 := rfl
    obtain ⟨E, hE⟩ : ∃ E, firstE b b.Routines.length 0 = E := ⟨_, rfl⟩
    rw [hE] at hSd hfE
    refine Pure.run Tryz.func44 rfl (by simp [Tryz.f44]) ?_; simp [-cB, Tryz.f44]
    intro bs
    refine AOps.pureC rfl (hrb) rfl rfl (by simp) rfl ?_
    simp
    intro bs2
    refine AWP.weaken (Wk.ownBox 4 15 5301 (e := 3) (k := 1) rfl rfl (by simp [keys])) ?_
    refine AWP.weaken (Wk.ownBox 4 16 5302 (e := 5) (k := 1) rfl rfl (by simp [keys, Heap.upd])) ?_
    simp only [Heap.upd, List.map_cons, List.map_nil, reduceIte, Nat.reduceEqDiff]
    refine AWP.loopS [1, 2, 4, 5] b.Routines.length (fun i => [(5, intD i)]) (fun i => [(5301, .row 3 1 (dd (encI (stM b i).1))), (5302, .row 5 1 (dd (encY (stM b i).2)))]) (fun i => firstE b (b.Routines.length - i) i = E) (by rfl) (by simp [stM, encY, hE, ons_app]) ?_
    intro i hi hH
    obtain ⟨l1, l2⟩ := st_len b hR i
    rcases Nat.lt_or_eq_of_le hi with hlt | heq
    · have hco := codeOf_ok b hb hR i
      have h64 : inR .i64 ((i : Int) + 1) := by rw [inR_i64]; omega
      have hcl := code_len b hR i
      have hst : stM b (i + 1) = ((stM b i).1 ++ [((stM b i).2.length : Int)], (stM b i).2 ++ (codeM b i).1) := rfl
      obtain ⟨c, hc⟩ : ∃ c, codeM b i = c := ⟨_, rfl⟩
      rw [hc] at hco hcl hst
      rw [show b.Routines.length - i = (b.Routines.length - (i + 1)) + 1 by omega, firstE, hc] at hH
      simp [-cB, hlt]
      refine AOps.pureC rfl (hco) rfl rfl (by simp) rfl ?_
      by_cases he : c.2 = 0
      · rw [if_pos he] at hH
        have k1 : V.kills 5301 (List.map V.d b.Tables.enc ++ [V.rv 5301, V.rv 5302]) = List.map V.d b.Tables.enc ++ [V.any, V.rv 5302] := rfl
        have k2 : V.kills 5302 (List.map V.d b.Tables.enc ++ [V.rv 5301, V.rv 5302]) = List.map V.d b.Tables.enc ++ [V.rv 5301, V.any] := rfl
        have k3 : (List.map V.d b.Tables.enc ++ [V.any, V.rv 5302]).take 15 = List.map V.d b.Tables.enc := rfl
        have k4 : (List.map V.d b.Tables.enc ++ [V.any, V.rv 5302]).drop 16 = [V.rv 5302] := rfl
        have k5 : (List.map V.d b.Tables.enc ++ [V.rv 5301, V.any]).take 16 = List.map V.d b.Tables.enc ++ [V.rv 5301] := rfl
        have k6 : (List.map V.d b.Tables.enc ++ [V.rv 5301, V.any]).drop 17 = [] := rfl
        simp [hlt, he, h64, hst, hH, l1, k1, k2, k3, k4, k5, k6]
        exact ⟨by omega, ⟨encY_one _, by omega⟩, by simp [ons_app]⟩
      · rw [if_neg he] at hH
        rw [← hH, if_pos he] at hSd
        simp [hlt, he]
        rw [← hSd]; exact ⟨rfl, rfl⟩
    · have hE0 : E = 0 := by rw [heq, Nat.sub_self, firstE] at hH; exact hH.symm
      rw [if_neg (by rw [hE0]; simp)] at hSd
      obtain ⟨st, hstd⟩ : ∃ st, stM b b.Routines.length = st := ⟨_, rfl⟩
      rw [hstd] at hSd
      rw [heq, hstd] at l1 l2
      have hc65 : (65536 : Int) < (st.2.length : Int) ↔ 65536 < st.2.length := by omega
      by_cases hL : 65536 < st.2.length
      · rw [if_pos hL] at hSd
        simp [heq, hstd, hL, hc65]
        rw [← hSd]; exact ⟨rfl, rfl⟩
      · rw [if_neg hL] at hSd
        simp [heq, hstd, hL, hc65]
        rw [← hSd]
        refine ⟨?_, rfl⟩
        simp [GTables.enc, GStory.enc]
        rfl
end Go.Ab

namespace Go.Ab
open Go.Proofs
def locsM (a : List Int) (n : Nat) : List Int := (List.range n).map fun i => if i < a.length then wrapM (a[i]?.getD 0) else 0
theorem locsM_succ (a : List Int) (n : Nat) : locsM a (n + 1) = locsM a n ++ [if n < a.length then wrapM (a[n]?.getD 0) else 0] := by
  unfold locsM; rw [List.range_succ, List.map_append]; rfl
theorem locsM_len (a : List Int) (n : Nat) : (locsM a n).length = n := by simp [locsM]
theorem frame32_ok (s : GStory) (r : Nat) (e : Int) (n : Nat) (he : s.Entry[r]? = some e) (hn : s.Tables.Locals[r]? = some (n : Int)) (hn2 : n ≤ 1000000) (a : List Int) (base : Int) :
    Pure Tryz.prog 48 [.agg (s.enc.map .d), intD r, .d (.sl (encI a)), intD base] (.agg ((GFrame.mk r e base (locsM a n)).enc.map .d)) := by
  obtain ⟨hr1, he1⟩ := List.getElem?_eq_some_iff.1 he
  obtain ⟨hr2, hn1⟩ := List.getElem?_eq_some_iff.1 hn
  refine Pure.run Tryz.func48 rfl (by simp [Tryz.f48]) ?_; simp [-cB, Tryz.f48]
  intro bs
  simp [he1, hr1]
  intro bs2
  refine AWP.weaken (Wk.ownBox 9 3 5301 (e := 3) (k := 1) rfl rfl (by simp [keys])) ?_
  simp only [Heap.upd, List.map_cons, List.map_nil, reduceIte, Nat.reduceEqDiff]
  refine AWP.loopS [1, 2, 4, 8, 9, 10] n (fun i => [(10, intD i)]) (fun i => [(5301, .row 3 1 (dd (encI (locsM a i))))]) (fun _ => True) (by rfl) (by simp [locsM]) ?_
  intro i hi _
  have hls := locsM_succ a i
  have hll := locsM_len a i
  rcases Nat.lt_or_eq_of_le hi with hlt | heq
  · have h64 : inR .i64 ((i : Int) + 1) := by rw [inR_i64]; omega
    have hlt' : (i : Int) < n := by omega
    by_cases hA : i < a.length
    · have hA' : (i : Int) < a.length := by omega
      rw [if_pos hA, List.getElem?_eq_getElem hA, Option.getD_some] at hls
      have hw := refWrap_ok a[i]
      simp [-cB, hlt, hlt', hn1, hr2, hA, hA']
      refine AOps.pureC rfl (hw) rfl rfl (by simp) rfl ?_
      simp [hlt, h64, hls, hll]
      omega
    · have hA' : ¬ (i : Int) < a.length := by omega
      rw [if_neg hA] at hls
      simp [hlt, hlt', hn1, hr2, hA, hA', h64, hls, hll]
      omega
  · simp [heq, hn1, hr2]
    rfl
def begM (s : GStory) (w : GWorld) (r : Int) (a : List Int) (env : GEnv) : GMachine :=
  if r < 0 ∨ (s.Tables.Params.length : Int) ≤ r then ⟨[], [], env, ⟨11, w, ⟨#[]⟩, 0, false, 0⟩, true⟩
  else if (a.length : Int) ≠ getI s.Tables.Params r then ⟨[], [], env, ⟨7, w, ⟨#[]⟩, 0, false, 0⟩, true⟩
  else ⟨[⟨r, getI s.Entry r, 0, locsM a (getI s.Tables.Locals r).toNat⟩], [], env, ⟨0, w, ⟨#[]⟩, 0, false, 0⟩, false⟩
theorem begin32_ok (s : GStory) (w : GWorld) (r : Int) (a : List Int) (env : GEnv) (h1 : s.Entry.length = s.Tables.Params.length) (h2 : s.Tables.Locals.length = s.Tables.Params.length) (h3 : ∀ n ∈ s.Tables.Locals, 0 ≤ n ∧ n ≤ 1000000) :
    Pure Tryz.prog 19 [.agg (s.enc.map .d), .agg (w.enc.map .d), intD r, .d (.sl (encI a)), .agg (env.enc.map .d)] (.agg ((begM s w r a env).enc.map .d)) := by
  obtain ⟨R, hR⟩ : ∃ R, begM s w r a env = R := ⟨_, rfl⟩
  have hRd := hR
  unfold begM at hRd
  rw [hR]
  by_cases hr : r < 0 ∨ (s.Tables.Params.length : Int) ≤ r
  · rw [if_pos hr] at hRd
    subst hRd
    have hrb : (decide (r < 0) || decide ((s.Tables.Params.length : Int) ≤ r)) = true := by simpa using hr
    refine Pure.run Tryz.func19 rfl (by simp [Tryz.f19, GEnv.enc, GWorld.enc]) ?_; simp [-cB, Tryz.f19, GEnv.enc, GWorld.enc]
    intro bs bs2
    simp [hrb, GEnv.enc, GWorld.enc]
    rfl
  · rw [if_neg hr] at hRd
    have hr1 : ¬ r < 0 := by omega
    have hr2 : ¬ (s.Tables.Params.length : Int) ≤ r := by omega
    have hil : r.toNat < s.Tables.Params.length := by omega
    have hrn : (r.toNat : Int) = r := by omega
    have hP : getI s.Tables.Params r = s.Tables.Params[r.toNat] := by unfold getI; rw [List.getElem?_eq_getElem hil]; rfl
    have hEn : getI s.Entry r = s.Entry[r.toNat]'(by omega) := by unfold getI; rw [List.getElem?_eq_getElem (by omega)]; rfl
    have hLo : getI s.Tables.Locals r = s.Tables.Locals[r.toNat]'(by omega) := by unfold getI; rw [List.getElem?_eq_getElem (by omega)]; rfl
    obtain ⟨b1, b2⟩ := h3 (s.Tables.Locals[r.toNat]'(by omega)) (List.getElem_mem _)
    have hfr := frame32_ok s r.toNat (s.Entry[r.toNat]'(by omega)) (s.Tables.Locals[r.toNat]'(by omega)).toNat (List.getElem?_eq_getElem _) (by rw [List.getElem?_eq_getElem (by omega)]; congr 1; omega) (by omega) a 0
    rw [hrn] at hfr
    by_cases hA : (a.length : Int) = getI s.Tables.Params r
    · rw [if_neg (by simpa using hA)] at hRd
      rw [hEn, hLo] at hRd
      rw [hP] at hA
      subst hRd
      refine Pure.run Tryz.func19 rfl (by simp [Tryz.f19, GEnv.enc, GWorld.enc, hr1, hr2]) ?_; simp [-cB, Tryz.f19, GEnv.enc, GWorld.enc, hr1, hr2]
      intro bs bs2
      simp [hr1, hr2, hil, hA, List.getElem?_eq_getElem hil]
      refine ⟨by omega, ?_⟩
      refine AOps.pureC rfl (hfr) rfl rfl (by simp) rfl ?_
      simp [GFrame.enc]
      rfl
    · rw [if_pos hA] at hRd
      rw [hP] at hA
      subst hRd
      refine Pure.run Tryz.func19 rfl (by simp [Tryz.f19, GEnv.enc, GWorld.enc, hr1, hr2]) ?_; simp [-cB, Tryz.f19, GEnv.enc, GWorld.enc, hr1, hr2]
      intro bs bs2
      simp [hr1, hr2, hil, hA, List.getElem?_eq_getElem hil]
      exact ⟨by omega, rfl⟩
end Go.Ab

namespace Go.Ab
open Go.Proofs
theorem beginVm_of (s : GStory) (w : GWorld) (r : Int) (a : List Int) (env : GEnv) (h1 : s.Entry.length = s.Tables.Params.length) (h2 : s.Tables.Locals.length = s.Tables.Params.length) (h3 : ∀ n ∈ s.Tables.Locals, 0 ≤ n ∧ n ≤ 1000000)
    (hfr0 : ∀ (r : Nat) (e : Int) (n : Nat), s.Entry[r]? = some e → s.Tables.Locals[r]? = some (n : Int) → n ≤ 1000000 → (a.length : Int) = getI s.Tables.Params r → Pure Tryz.prog 47 [.agg (s.enc.map .d), intD r, .d (.sl (encI a)), intD 0] (.agg ((GFrame.mk r e 0 (locsM a n)).enc.map .d))) :
    Pure Tryz.prog 18 [.agg (s.enc.map .d), .agg (w.enc.map .d), intD r, .d (.sl (encI a)), .agg (env.enc.map .d)] (.agg ((begM s w r a env).enc.map .d)) := by
  obtain ⟨R, hR⟩ : ∃ R, begM s w r a env = R := ⟨_, rfl⟩
  have hRd := hR
  unfold begM at hRd
  rw [hR]
  by_cases hr : r < 0 ∨ (s.Tables.Params.length : Int) ≤ r
  · rw [if_pos hr] at hRd
    subst hRd
    have hrb : (decide (r < 0) || decide ((s.Tables.Params.length : Int) ≤ r)) = true := by simpa using hr
    refine Pure.run Tryz.func18 rfl (by simp [Tryz.f18, GEnv.enc, GWorld.enc]) ?_; simp [-cB, Tryz.f18, GEnv.enc, GWorld.enc]
    intro bs bs2
    simp [hrb, GEnv.enc, GWorld.enc]
    rfl
  · rw [if_neg hr] at hRd
    have hr1 : ¬ r < 0 := by omega
    have hr2 : ¬ (s.Tables.Params.length : Int) ≤ r := by omega
    have hil : r.toNat < s.Tables.Params.length := by omega
    have hrn : (r.toNat : Int) = r := by omega
    have hP : getI s.Tables.Params r = s.Tables.Params[r.toNat] := by unfold getI; rw [List.getElem?_eq_getElem hil]; rfl
    have hEn : getI s.Entry r = s.Entry[r.toNat]'(by omega) := by unfold getI; rw [List.getElem?_eq_getElem (by omega)]; rfl
    have hLo : getI s.Tables.Locals r = s.Tables.Locals[r.toNat]'(by omega) := by unfold getI; rw [List.getElem?_eq_getElem (by omega)]; rfl
    obtain ⟨b1, b2⟩ := h3 (s.Tables.Locals[r.toNat]'(by omega)) (List.getElem_mem _)
    by_cases hA : (a.length : Int) = getI s.Tables.Params r
    · have hfr := hfr0 r.toNat (s.Entry[r.toNat]'(by omega)) (s.Tables.Locals[r.toNat]'(by omega)).toNat (List.getElem?_eq_getElem _) (by rw [List.getElem?_eq_getElem (by omega)]; congr 1; omega) (by omega) (by rw [hrn]; exact hA)
      rw [hrn] at hfr
      rw [if_neg (by simpa using hA)] at hRd
      rw [hEn, hLo] at hRd
      rw [hP] at hA
      subst hRd
      refine Pure.run Tryz.func18 rfl (by simp [Tryz.f18, GEnv.enc, GWorld.enc, hr1, hr2]) ?_; simp [-cB, Tryz.f18, GEnv.enc, GWorld.enc, hr1, hr2]
      intro bs bs2
      simp [hr1, hr2, hil, hA, List.getElem?_eq_getElem hil]
      refine ⟨by omega, ?_⟩
      refine AOps.pureC rfl (hfr) rfl rfl (by simp) rfl ?_
      simp [GFrame.enc]
      rfl
    · rw [if_pos hA] at hRd
      rw [hP] at hA
      subst hRd
      refine Pure.run Tryz.func18 rfl (by simp [Tryz.f18, GEnv.enc, GWorld.enc, hr1, hr2]) ?_; simp [-cB, Tryz.f18, GEnv.enc, GWorld.enc, hr1, hr2]
      intro bs bs2
      simp [hr1, hr2, hil, hA, List.getElem?_eq_getElem hil]
      exact ⟨by omega, rfl⟩
end Go.Ab

namespace Go.Ab
open Go.Proofs
theorem ints_self (a : List Int) (ha : a.length ≤ 1000000000000) : Pure Tryz.prog 46 [.d (.sl (encI a)), .d (.sl (encI a))] (boolD true) := by
  refine Pure.run Tryz.func46 rfl (by simp [Tryz.f46]) ?_; simp [-cB, Tryz.f46]
  refine AWP.loopS [0, 1, 5] a.length (fun i => [(5, intD i)]) (fun _ => []) (fun _ => True) (by rfl) (by simp) ?_
  intro i hi _
  rcases Nat.lt_or_eq_of_le hi with hlt | heq
  · have h64 : inR .i64 ((i : Int) + 1) := by rw [inR_i64]; omega
    have hlt' : (i : Int) < a.length := by omega
    simp [-cB, hlt, hlt']
    refine AWP.regionD [] Tryz.mixed (by kernel_rfl) (by rfl) ?_
    simp [hlt, hlt', h64]
  · simp [heq]
end Go.Ab

namespace Go.Ab
open Go.Proofs
def shortW (w : GWorld) : Prop := w.Globals.length ≤ 1000000000000 ∧ w.Parent.length ≤ 1000000000000 ∧ w.Child.length ≤ 1000000000000 ∧ w.Next.length ≤ 1000000000000 ∧ w.Flags.length ≤ 1000000000000 ∧ w.Props.length ≤ 1000000000000 ∧ w.Timers.length ≤ 1000000000000
set_option maxHeartbeats 16000000 in
set_option maxRecDepth 60000 in
theorem told_self (t : GTold) (h : shortW t.World) : Pure Tryz.prog 23 [.agg (t.enc.map .d), .agg (t.enc.map .d)] (boolD true) := by
  obtain ⟨h1, h2, h3, h4, h5, h6, h7⟩ := h
  have e1 := ints_self _ h1
  have e2 := ints_self _ h2
  have e3 := ints_self _ h3
  have e4 := ints_self _ h4
  have e5 := ints_self _ h5
  have e6 := ints_self _ h6
  have e7 := ints_self _ h7
  refine Pure.runA Tryz.func23 rfl (by simp [Tryz.f23]) ?_
  simp only [Tryz.f23]
  refine AWP.seqK ?_
  simp [-cB, GTold.enc, GWorld.enc]
  intro bs
  obtain ⟨W, hW⟩ : ∃ W : List V, W = (t.World.enc.map .d) := ⟨_, rfl⟩
  have hW2 := hW
  simp only [GWorld.enc, List.map_cons, List.map_nil] at hW2
  refine AWP.merge ⟨[(2, .bp 2 0), (3, .bp 3 0), (4, .d (.v (.bool false))), (5, .bp 5 0), (6, .bp 6 0)], [(5, .box 0 31 W), (6, .box 0 31 W),
    (3, .box (bs 1 + 1) 46 (t.enc.map .d)), (2, .box (bs 0 + 1) 46 (t.enc.map .d))]⟩ ?_ ?_
  · rw [hW2]
    refine AWP.regionE Tryz.mixed (OrdR.edge 4 5 (by decide) (OrdR.m0 [some (0, 2), some (0, 2), some (0, 3), some (0, 3), none, none, none, none] [] (by kernel_rfl) ?_) (OrdR.perm [0, 1, 2, 3, 5, 4, 6, 7] [0, 1, 2, 3, 5, 4, 6, 7] (by kernel_rfl) (by kernel_rfl) (OrdR.m0 [some (0, 2), some (0, 2), some (0, 3), some (0, 3), none, none, none, none] [] (by kernel_rfl) ?_)))
    all_goals
      simp [-cB]
      intro bs1
      refine (Wk.rlx [5, 6]).trans (Wk.pick [2, 3, 4, 5, 6] [5, 6, 3, 2] (by rfl) (by decide) (by simp [St.pick, St.rlx, St.on, V.on, V.ons, Res.rlx]))
  · intro bs2
    rw [hW2]
    refine AWP.ofK ?_
    simp [-cB, GTold.enc, GWorld.enc]
    refine AOps.pureG rfl (fun _ => e1) rfl (by first | rfl | (simp; rfl)) (by simp) (by simp) rfl ?_
    simp [-cB]
    refine AOps.pureG rfl (fun _ => e2) rfl (by first | rfl | (simp; rfl)) (by simp) (by simp) rfl ?_
    simp [-cB]
    refine AOps.pureG rfl (fun _ => e3) rfl (by first | rfl | (simp; rfl)) (by simp) (by simp) rfl ?_
    simp [-cB]
    refine AOps.pureG rfl (fun _ => e4) rfl (by first | rfl | (simp; rfl)) (by simp) (by simp) rfl ?_
    simp [-cB]
    refine AOps.pureG rfl (fun _ => e5) rfl (by first | rfl | (simp; rfl)) (by simp) (by simp) rfl ?_
    simp [-cB]
    refine AOps.pureG rfl (fun _ => e6) rfl (by first | rfl | (simp; rfl)) (by simp) (by simp) rfl ?_
    simp [-cB]
    refine AOps.pureG rfl (fun _ => e7) rfl (by first | rfl | (simp; rfl)) (by simp) (by simp) rfl ?_
    simp [-cB]
def shortM (m : GMachine) : Prop := m.Stack.length ≤ 1000000000000 ∧ m.Frames.length ≤ 1000000000000 ∧ (∀ f ∈ m.Frames, f.Locals.length ≤ 1000000000000) ∧ shortW m.Told.World
set_option maxHeartbeats 16000000 in
set_option maxRecDepth 60000 in
theorem sameM_self (m : GMachine) (h : shortM m) : Pure Tryz.prog 17 [.agg (m.enc.map .d), .agg (m.enc.map .d)] (boolD true) := by
  obtain ⟨h1, h2, h3, h4⟩ := h
  have e1 := ints_self _ h1
  have e2 := told_self _ h4
  have hen : ∀ f : GFrame, f.enc = [.v (.int .i64 f.Routine), .v (.int .i64 f.At), .v (.int .i64 f.Base), .sl (encI f.Locals)] := fun f => rfl
  refine Pure.run Tryz.func17 rfl (by simp [Tryz.f17]) ?_; simp [-cB, Tryz.f17]
  intro bs
  refine AOps.pureG rfl (fun _ => e1) rfl (by first | rfl | (simp; rfl)) (by simp) (by simp) rfl ?_
  simp [-cB]
  refine AOps.pureG rfl (fun _ => e2) rfl (by first | rfl | (simp; rfl)) (by simp) (by simp) rfl ?_
  simp
  clear e1 e2 h1 h4
  refine AWP.loopS [2, 3, 5] m.Frames.length (fun i => [(5, .d (.v (.int .i64 i)))]) (fun _ => []) (fun _ => True) (by rfl) (by simp) ?_
  intro i hi _
  rcases Nat.lt_or_eq_of_le hi with hlt | heq
  · have h64 : inR .i64 ((i : Int) + 1) := by rw [inR_i64]; omega
    have hlt' : (i : Int) < m.Frames.length := by omega
    have e3 := ints_self _ (h3 _ (List.getElem_mem hlt))
    simp [-cB, hlt, hlt']
    refine AWP.regionE Tryz.mixed (OrdR.edge 10 11 (by decide) (OrdR.m0 [some (0, 2), some (0, 2), some (0, 2), some (0, 2), some (0, 2), some (0, 3), some (0, 3), some (0, 3), some (0, 3), some (0, 3), none, none, none, none] [] (by kernel_rfl) ?_) (OrdR.perm [0, 1, 2, 3, 4, 5, 6, 7, 8, 9, 11, 10, 12, 13] [0, 1, 2, 3, 4, 5, 6, 7, 8, 9, 11, 10, 12, 13] (by kernel_rfl) (by kernel_rfl) (OrdR.m0 [some (0, 2), some (0, 2), some (0, 2), some (0, 2), some (0, 2), some (0, 3), some (0, 3), some (0, 3), some (0, 3), some (0, 3), none, none, none, none] [] (by kernel_rfl) ?_)))
    all_goals
      simp [-cB, hlt, hen]
      intro bs1
      refine AOps.pureG rfl (fun _ => e3) rfl (by first | rfl | (simp; rfl)) (by simp) (by simp) rfl ?_
      simp [h64, hlt]
  · simp [heq]
end Go.Ab

namespace Go.Ab
open Go.Proofs
def faultV (e : Int) : V := .d (.ifc 103 true [.v (.int .i64 e)])
end Go.Ab

namespace Go.Ab
open Go.Proofs
def failedM (m : GMachine) (e : Int) : GMachine := { m with Done := true, Told := { m.Told with Err := e } }
theorem stepDefer_ok (m out : GMachine) (b4 b6 : Nat) (px : Option Int) : DCalls Tryz.prog 49 [.bp 4 0, .bp 6 0] [(4, .box (b4 + 1) 67 (m.enc.map .d)), (6, .box (b6 + 1) 67 (out.enc.map .d))] (px.map faultV)
    (fun r L' => r = none ∧ L' = [(4, .box (b4 + 1) 67 (m.enc.map .d)), (6, .box (b6 + 1) 67 ((match px with | none => out | some e => failedM m e).enc.map .d))]) := by
  refine DCalls.run Tryz.func49 rfl (by simp [Tryz.f49]) (by simp [Tryz.f49]) ?_
  simp only [Tryz.f49]
  refine SWP.rec (d := 5) ?_ rfl (by decide) rfl (l := []) rfl rfl (by rfl) ?_
  · intro ρ w
    simp [execOp, resolve, invoke]
    rfl
  refine AWP.edq (hs := [4, 6]) (by decide) (AWP.ofK ?_)
  cases px with
  | none =>
    simp [-cB, recV]
  | some e =>
    simp [-cB, recV, faultV]
    intro bs
    refine AWP.regionM0 [some (0, 1), some (0, 1), some (0, 0), none, some (1, 1), some (1, 1), none] [] Tryz.mixed (by kernel_rfl) ?_
    simp [failedM, GMachine.enc, GTold.enc]
end Go.Ab

namespace Go.Ab
section
variable {P : Program} {n : Nat} {Q : AX → St → Prop}
theorem any_orderR {R : Exit → Act → World → Prop} {l : List Oper} {s s' : St} {tr : List (St × V)} (ht : Trace P l.toArray l s tr s') (hin : indep l = true) (hd : dstsOk n l = true) {fo : FO} {m m0 : Nat → Option Value} {w0 : World}
    (hfin : ∀ a w, G fo n m s' a w → Step w0 (own m0) w (own m) → R .normal a w)
    (hfr : ∀ p, p ∈ s.fr → p.1 < n) :
    ∀ (fuel : Nat) (listed : Array Bool) (un : List Nat) (a : Act) (w : World), un.length ≤ fuel → (∀ i, i < l.length → listed.getD i false = false → i ∈ un) →
      Mid fo m m0 w0 n l s tr listed a w → wpAnyIn (wr fo.r) 0 P .any l.toArray R fuel listed a w := by
  have hdl : ∀ (i : Nat) (o : Oper) (d : Nat), l[i]? = some o → o.dst = some d → d < n := by
    intro i o d hi ho
    unfold dstsOk at hd
    rw [List.all_eq_true] at hd
    have := hd o (List.mem_of_getElem? hi)
    rw [ho] at this
    simpa using this
  obtain ⟨hlen, hL⟩ := ht.len
  have htr : ∀ i : Nat, i < l.length → ∃ (si : St) (xi : V), tr[i]? = some (si, xi) := by
    intro i hi
    exact ⟨_, _, List.getElem?_eq_getElem (by omega)⟩
  have fin : ∀ (listed : Array Bool) (a : Act) (w : World), (∀ i, i < l.length → listed.getD i false = true) → Mid fo m m0 w0 n l s tr listed a w → R .normal a w := by
    intro listed a w hall M
    refine hfin a w ⟨M.size, ?_, by rw [hL]; exact M.inv, M.defers⟩ M.step
    intro t x hx
    rcases ht.mem (t, x) hx with ⟨j, o, sj, h1, h2, h3⟩ | ⟨h1, h2⟩
    · exact ⟨hdl j o t h1 h2, M.done j o sj x t h1 h3 h2 (hall j (List.getElem?_eq_some_iff.1 h1).1)⟩
    · exact ⟨hfr _ h1, M.rest _ h1 h2⟩
  have ready_nil : ∀ (listed : Array Bool), listed.size = l.length → (∀ (j : Nat) (o : Oper), l[j]? = some o → listed.getD j false = true → ∀ e ∈ o.after, Region.binds .any e = true → listed.getD e.on false = true) →
      Region.ready .any l.toArray listed = [] → ∀ i, i < l.length → listed.getD i false = true := by
    intro listed hsz _ hr i
    induction i using Nat.strongRecOn with
    | _ i ih =>
      intro hi
      cases hb : listed.getD i false with
      | true => rfl
      | false =>
        exfalso
        have hmem : i ∈ Region.ready .any l.toArray listed := by
          refine mem_ready.2 ⟨by rw [getD_lt (c := false) (by omega)]; exact hb, l[i], by simp [hi], fun e he hbd => ?_⟩
          have := (indep_at hin (List.getElem?_eq_getElem hi)).2.1 e he hbd
          exact ih e.on this (by omega)
        rw [hr] at hmem
        cases hmem
  intro fuel
  induction fuel with
  | zero =>
    intro listed un a w hun hall M
    have h0 : ∀ i, i < l.length → listed.getD i false = true := by
      intro i hi
      cases hb : listed.getD i false with
      | true => rfl
      | false => have h9 := hall i hi hb; have h8 : un = [] := List.eq_nil_of_length_eq_zero (by omega); rw [h8] at h9; cases h9
    refine ⟨?_, fin listed a w h0 M⟩
    rw [List.eq_nil_iff_forall_not_mem]
    intro j hj
    obtain ⟨h1, o, h2, _⟩ := mem_ready.1 hj
    have hjl : j < l.length := by have := (Array.getElem?_eq_some_iff.1 h2).1; simpa using this
    rw [getD_lt (c := false) (by have := M.lsz; omega)] at h1
    rw [h0 j hjl] at h1
    cases h1
  | succ fuel ih =>
    intro listed un a w hun hall M
    refine ⟨fun hr => fin listed a w (ready_nil listed M.lsz M.closed hr) M, ?_⟩
    intro i hi
    obtain ⟨h1, o, h2, h3⟩ := mem_ready.1 hi
    have hil : i < l.length := by have := (Array.getElem?_eq_some_iff.1 h2).1; simpa using this
    have hio : l[i]? = some o := by simpa using h2
    rw [getD_lt (c := false) (by have := M.lsz; omega)] at h1
    obtain ⟨si, xi, htri⟩ := htr i hil
    obtain ⟨hsL, o', ho', hy⟩ := ht.at i si xi htri
    rw [hio] at ho'
    obtain rfl := Option.some.inj ho'
    obtain ⟨i1, i2, i3⟩ := indep_at hin hio
    have uniq : ∀ (t : Nat) (j : Nat) (o'' : Oper), l[j]? = some o'' → o''.dst = some t → writes l t = some j := fun t j o'' hj hd => (indep_at hin hj).1 t hd
    have hslots : ∀ t, t ∈ o.looksAt l.toArray → RelV w (OO fo m) m (a.tmps.getD t undef) (si.get t) := by
      intro t htl
      cases hw : writes l t with
      | none =>
        rw [ht.get_old t i si xi htri (fun j o'' _ hj => writes_none hw hj)]
        exact M.todo t (fun j o'' hj hd => (writes_none hw hj hd).elim)
      | some j =>
        obtain ⟨oj, hoj, hdj⟩ := writes_some hw
        obtain ⟨sj, xj, htrj⟩ := htr j (List.getElem?_eq_some_iff.1 hoj).1
        rcases i3 t htl j hw with ⟨hlt, e, he, hb, hon⟩ | ⟨hlt, oj', hoj', e, he, hb, hon⟩
        · rw [ht.get_new t i j si xi sj xj oj htri hlt htrj hoj hdj (fun j' o'' hjj _ hj' hd' => by
            have := uniq t j' o'' hj' hd'
            rw [hw] at this
            have := Option.some.inj this
            omega)]
          exact M.done j oj sj xj t hoj htrj hdj (by rw [← hon]; exact h3 e he hb)
        · rw [ht.get_old t i si xi htri (fun j' o'' hj' ho'' hd' => by
            have := uniq t j' o'' ho'' hd'
            rw [hw] at this
            have := Option.some.inj this
            omega)]
          refine M.todo t (fun j' o'' hj' hd' => ?_)
          have := uniq t j' o'' hj' hd'
          rw [hw] at this
          obtain rfl := Option.some.inj this
          cases hb' : listed.getD j false with
          | false => rfl
          | true =>
            rw [hoj] at hoj'
            obtain rfl := Option.some.inj hoj'
            have := M.closed j oj hoj hb' e he hb
            rw [hon, h1] at this
            cases this
    have hrun := hy fo m a w (by rw [hsL]; exact M.inv) hslots (wpAnyIn (wr fo.r) 0 P .any l.toArray R fuel (listed.setIfInBounds i true)) R (fun v w' hr hi' st => by
      rw [hsL] at hi'
      have hkeep : Keep w (OO fo m) w' := ⟨st.size, fun b hb ho => st.block b hb (fun h => ho (.inl h))⟩
      have mono : ∀ {v : Value} {x : V}, RelV w (OO fo m) m v x → RelV w' (OO fo m) m v x := fun h => h.mono hkeep (fun _ _ h => h) (fun _ _ h => h)
      have hne : ∀ t, o.dst ≠ some t → (a.put o.dst v).tmps.getD t undef = a.tmps.getD t undef := by
        intro t hn
        cases hdd : o.dst with
        | none => rfl
        | some d =>
          have : d ≠ t := fun e => hn (by rw [hdd, e])
          simp [Act.put, Array.getElem?_setIfInBounds_ne this]
      have hset : ∀ j, (listed.setIfInBounds i true).getD j false = true ↔ (j = i ∨ listed.getD j false = true) := by
        intro j
        by_cases hj : j = i
        · subst hj
          have hjs : j < listed.size := by have := M.lsz; omega
          simp [Array.getD, hjs]
        · have : ¬ i = j := fun e => hj e.symm
          simp only [Array.getD_eq_getD_getElem?, Array.getElem?_setIfInBounds_ne this, hj, false_or]
      refine ih (listed.setIfInBounds i true) (un.erase i) (a.put o.dst v) w' ?_ ?_ ?_
      · have hmem := hall i hil h1
        rw [List.length_erase_of_mem hmem]; omega
      · intro j hj hb
        have hnj : ¬ ((listed.setIfInBounds i true).getD j false = true) := by rw [hb]; simp
        rw [hset] at hnj
        have hji : j ≠ i := fun e => hnj (.inl e)
        have hb2 : listed.getD j false = false := by
          cases hx : listed.getD j false with
          | false => rfl
          | true => exact (hnj (.inr hx)).elim
        exact (List.mem_erase_of_ne hji).2 (hall j hj hb2)
      · refine ⟨?_, ?_, hi', M.step.trans st, by simpa using M.lsz, ?_, ?_, ?_, ?_⟩
        · cases hdd : o.dst <;> simp [Act.put, M.size]
        · cases hdd : o.dst <;> simp [Act.put, M.defers]
        · intro j oj sj xj d hoj htrj hdj hb
          by_cases hji : j = i
          · subst hji
            rw [hio] at hoj
            obtain rfl := Option.some.inj hoj
            rw [htri] at htrj
            obtain ⟨rfl, rfl⟩ := Prod.mk.inj (Option.some.inj htrj)
            have hdn := hdl j o d hio hdj
            have : (a.put o.dst v).tmps.getD d undef = v := by
              have hsz := M.size
              rw [hdj]
              simp [Act.put, Array.getD, hsz, hdn]
            rw [this]; exact hr
          · have hnd : o.dst ≠ some d := by
              intro e
              have q1 := uniq d i o hio e
              have q2 := uniq d j oj hoj hdj
              rw [q1] at q2
              exact hji (Option.some.inj q2).symm
            rw [hne d hnd]
            exact mono (M.done j oj sj xj d hoj htrj hdj (((hset j).1 hb).resolve_left hji))
        · intro t hall'
          have hnd : o.dst ≠ some t := by
            intro e
            have := hall' i o hio e
            have h4 := (hset i).2 (.inl rfl)
            rw [this] at h4; cases h4
          rw [hne t hnd]
          refine mono (M.todo t (fun j oj hoj hdj => ?_))
          have := hall' j oj hoj hdj
          cases hx : listed.getD j false with
          | false => rfl
          | true => have h4 := (hset j).2 (.inr hx); rw [this] at h4; cases h4
        · intro p hp hnw
          rw [hne p.1 (hnw i o hio)]
          exact mono (M.rest p hp hnw)
        · intro j oj hoj hb e he hbd
          rw [hset]
          rcases (hset j).1 hb with rfl | hb'
          · rw [hio] at hoj
            obtain rfl := Option.some.inj hoj
            exact .inr (h3 e he hbd)
          · exact .inr (M.closed j oj hoj hb' e he hbd))
    unfold wpOpIn
    rw [h2]
    simp only
    split
    · rename_i hw; rw [if_pos hw] at hrun; exact hrun
    · rename_i hw; rw [if_neg hw] at hrun; exact ⟨fun _ _ => trivial, hrun⟩
def AWPR (P : Program) (n : Nat) (c : Code) (s s' : St) (e0 : Exit) : Prop := ∀ fo m a w, G fo n m s a w → c.wpIn (wr fo.r) 0 P (fun e a' w' => e = e0 ∧ G fo n m s' a' w' ∧ Step w (own m) w' (own m)) a w
theorem AWPR.seq {x y : Code} {s s1 s2 : St} {e : Exit} (h1 : AWPR P n x s s1 .normal) (h2 : AWPR P n y s1 s2 e) : AWPR P n (.seq x y) s s2 e := fun fo m a w g => by
  refine wpIn_seq (Code.wpIn_mono (fun e1 a1 w1 hp => ?_) (h1 fo m a w g))
  obtain ⟨rfl, g1, st⟩ := hp
  exact Code.wpIn_mono (fun e2 a2 w2 ⟨h, g2, st2⟩ => ⟨h, g2, st.trans st2⟩) (h2 fo m a1 w1 g1)
theorem AWPR.ret {s : St} : AWPR P n .ret s s .ret := fun fo m a w g => wpIn_ret ⟨rfl, g, Step.refl w _⟩
theorem mid_start {fo : FO} {m : Nat → Option Value} {l : List Oper} {s : St} {tr : List (St × V)} {a : Act} {w : World} (g : G fo n m s a w) (k : Nat) : Mid fo m m w n l s tr (Array.replicate l.toArray.size false) a { w with drawn := k } := by
  have st : Step w (own m) { w with drawn := k } (own m) := ⟨rfl, rfl, rfl, Nat.le_refl _, fun _ _ _ => rfl, fun _ _ h => h⟩
  have mono : ∀ {v : Value} {x : V}, RelV w (OO fo m) m v x → RelV { w with drawn := k } (OO fo m) m v x := fun h => h.mono st.keep (fun _ _ h => h) (fun _ _ h => h)
  refine ⟨g.size, g.defers, g.inv.grown (Nat.le_refl _) (fun _ _ => rfl), st, by simp, ?_, fun t _ => mono (get_rel g t), fun p hp _ => mono (g.fr p.1 p.2 hp).2, ?_⟩
  · intro j o sj xj d _ _ _ hb
    have : (Array.replicate l.toArray.size false).getD j false = false := by simp [Array.getD]
    rw [this] at hb; cases hb
  · intro j o _ hb
    have : (Array.replicate l.toArray.size false).getD j false = false := by simp [Array.getD]
    rw [this] at hb; cases hb
theorem ordr_one (o : Oper) (h : o.after = #[]) : Ordr [o].toArray 1 (Array.replicate 1 false) [0] := by
  refine .inr ⟨0, [], rfl, ?_, rfl⟩
  rw [mem_ready]
  exact ⟨rfl, o, rfl, fun e he => by rw [h] at he; simp at he⟩
def RCalls (P : Program) (f : FuncId) (args : List V) (L : Heap) (x : V) : Prop :=
  ∀ fo m w (xs : Array Value), Inv fo m L w → RelVs w (OO fo m) m xs args → Calls P f xs w (fun e w' => ∃ v, e = .returned v ∧ RelV w' (OO fo m) m v x ∧ Inv fo m L w' ∧ Step w (own m) w' (own m))
theorem RCalls.of {f : FuncId} {fn : Func} {c : Code} {args : List V} {L : Heap} {s' : St} {ys : List V} {c' : Prop} (hf : P.funcs[f]? = some fn) (hb : fn.body = some c) (hn : args.length ≤ fn.ntmps)
    (h : AWPR P fn.ntmps c ⟨argFrame 0 args, L⟩ s' .ret) (hL : s'.L = L) (hr : resVs P s' fn.results.toList = some (ys, c')) (hc : c') : RCalls P f args L (tupV ys) := by
  intro fo m w xs hi hx
  have key : ∀ fo : FO, fo.D = [] → fo.r = none → fo.nm = false → Inv fo m L w → RelVs w (OO fo m) m xs args → Calls P f xs w (fun e w' => ∃ v, e = .returned v ∧ RelV w' (OO fo m) m v (tupV ys) ∧ Inv fo m L w' ∧ Step w (own m) w' (own m)) := by
    clear hi hx fo
    intro fo hD hr0 hnm hi hx
    refine callsIn_wide.1 (callsIn_of_wp_marks (n := 0) hf hb trivial ?_)
    have hsz : (xs ++ Array.replicate (fn.ntmps - xs.size) undef).size = fn.ntmps := by
      have := hx.1
      simp; omega
    have g : G fo fn.ntmps m ⟨argFrame 0 args, L⟩ { tmps := xs ++ Array.replicate (fn.ntmps - xs.size) undef, defers := [] } w := by
      refine ⟨hsz, ?_, hi, hD.symm⟩
      intro t y hy
      obtain ⟨h1, h2, h3⟩ := mem_argFrame hy
      simp only [Nat.sub_zero, Nat.zero_add] at h2 h3
      refine ⟨by omega, ?_⟩
      have hlt : t < xs.size := by rw [hx.1]; exact h3
      have : (xs ++ Array.replicate (fn.ntmps - xs.size) undef).getD t undef = xs[t] := by
        simp [Array.getD, hlt]
        omega
      rw [this]
      exact hx.2 t _ y (Array.getElem?_eq_getElem hlt) h2
    have h0 := h fo m _ w g
    rw [hr0] at h0
    refine Code.wpIn_mono (F := Fence.wide) ?_ h0
    rintro e a' w' ⟨rfl, g', st⟩
    show LeavesInM Fence.wide 0 P fn a'.tmps _ a'.defers .returning w'
    rw [g'.defers, hD]
    refine leaves_marks (by simp) [] w' List.nodup_nil (by simp) (fun w2 h1 h2 h3 h4 h5 => ?_)
    have st2 : Step w (own m) w2 (own m) := ⟨h1.trans st.os, h2.trans st.tape, h3.trans st.output, Nat.le_trans st.size h4, fun b hb ho => (h5 b (by simp)).trans (st.block b hb ho), st.owned⟩
    have g2 : G fo fn.ntmps m s' a' w2 := g'.others h4 (fun b _ _ => h5 b (by simp))
    obtain ⟨v, k1, k2⟩ := results_sound g2 hr hc
    exact ⟨v, k1, v, rfl, k2, by rw [← hL]; exact g2.inv, st2⟩
  exact (key ⟨fo.f, [], none, false⟩ rfl rfl rfl ⟨hi.nodup, hi.dom, hi.apart, hi.others, hi.folt, hi.holds, hi.glob⟩ hx).mono fun _ _ ⟨v, h1, h2, h3, h4⟩ => ⟨v, h1, h2, ⟨h3.nodup, h3.dom, h3.apart, h3.others, h3.folt, h3.holds, h3.glob⟩, h4⟩
def RW (P : Program) (n : Nat) (c : Code) (s : St) (e0 : Exit) (K : St → Prop) : Prop := ∃ s', AWPR P n c s s' e0 ∧ K s'
theorem RW.seq {x y : Code} {s : St} {e : Exit} {K : St → Prop} (h : RW P n x s .normal (fun s1 => RW P n y s1 e K)) : RW P n (.seq x y) s e K := by
  obtain ⟨s1, h1, s2, h2, hK⟩ := h
  exact ⟨s2, h1.seq h2, hK⟩
theorem RW.ret {s : St} {K : St → Prop} (h : K s) : RW P n .ret s .ret K := ⟨s, AWPR.ret, h⟩
theorem RW.draw {id : Nat} {l : List Oper} {s : St} {K : St → Prop} (us : List V) (hm : P.follows .mixedOrders = true) (hin : indep l = true) (hd : dstsOk n l = true) (h : runD P l.toArray l s us K) : RW P n (.region id l.toArray true) s .normal K := by
  obtain ⟨tr, s2, ht, hK⟩ := runD_trace l s us h
  refine ⟨s2, ?_, hK⟩
  intro fo m a w g
  refine wpIn_region_any hm ?_
  exact any_orderR (P := P) (n := n) ht hin hd (fo := fo) (m := m) (m0 := m) (w0 := w) (fun a1 w1 g1 st => ⟨rfl, g1, st⟩) (fun p hp => (g.fr p.1 p.2 hp).1) l.toArray.size (Array.replicate l.toArray.size false) (List.range l.length) a { w with drawn := w.drawn + 1 }
    (by simp) (fun i hi _ => by simpa using hi) (mid_start g _)
theorem RW.one {id : Nat} {o : Oper} {s : St} {K : St → Prop} (us : List V) (ha : o.after = #[]) (hin : indep [o] = true) (hd : dstsOk n [o] = true) (h : runD P [o].toArray [o] s us K) : RW P n (.region id [o].toArray false) s .normal K := by
  obtain ⟨tr, s2, ht, hK⟩ := runD_trace [o] s us h
  refine ⟨s2, ?_, hK⟩
  intro fo m a w g
  refine wpIn_region ?_
  have hk := mid_start (l := [o]) (tr := tr) g w.drawn
  have := any_orderR (P := P) (n := n) ht hin hd (fo := fo) (m := m) (m0 := m) (w0 := w) (R := fun e a' w' => e = .normal ∧ G fo n m s2 a' w' ∧ Step w (own m) w' (own m)) (fun a1 w1 g1 st => ⟨rfl, g1, st⟩) (fun p hp => (g.fr p.1 p.2 hp).1) 1 (Array.replicate 1 false) [0] a w
    (by simp) (fun i hi _ => by simp at hi; simp [hi]) hk
  exact Ordr.run 1 _ _ _ _ this (ordr_one o ha)
def readsTo (P : Program) (rs : List ResultVar) (L : Heap) (x : V) (s : St) : Prop := s.L = L ∧ match resVs P s rs with
  | some (ys, c) => c ∧ tupV ys = x
  | none => False
theorem RCalls.run {f : FuncId} {fn : Func} {c : Code} {args : List V} {L : Heap} {x : V} (hf : P.funcs[f]? = some fn) (hb : fn.body = some c) (hn : args.length ≤ fn.ntmps)
    (h : RW P fn.ntmps c ⟨argFrame 0 args, L⟩ .ret (readsTo P fn.results.toList L x)) : RCalls P f args L x := by
  obtain ⟨s', h1, hL, h2⟩ := h
  split at h2
  · rename_i ys c' hr
    rw [← h2.2]
    exact RCalls.of hf hb hn h1 hL hr h2.1
  · exact h2.elim
theorem OpT.read {o : Oper} {c : Call} {ρa : Operand → V} {f : FuncId} {args : List V} {x : V} {L : Heap} (L1 L2 : Heap) (hop : o.op = .call c) (hc : callee ρa c = some (f, args)) (he : enters P f = true) (hL : L.Perm (L1 ++ L2))
    (ho : V.ons (keys L1) args = true) (hon : L1.all (fun p => Res.on (keys L1) p.2) = true) (h : RCalls P f args L1 x) : OpT P o ρa L x := by
  classical
  intro fo m ρ w hi hr
  obtain ⟨xs, h1, h2⟩ := call_enters (P := P) hop hc he hr
  refine .inr ⟨f, xs, h1, ?_⟩
  have hkeys : ∀ x, x ∈ keys L ↔ x ∈ keys L1 ∨ x ∈ keys L2 := by
    intro x
    have : (keys L).Perm (keys (L1 ++ L2)) := hL.map _
    rw [this.mem_iff]
    simp [keys]
  have hnd : (keys L1).Nodup ∧ (keys L2).Nodup ∧ ∀ x, x ∈ keys L1 → x ∉ keys L2 := by
    have hp : (keys L).Perm (keys L1 ++ keys L2) := by simpa [keys] using hL.map (·.1)
    have := hp.nodup_iff.1 hi.nodup
    rw [List.nodup_append] at this
    exact ⟨this.1, this.2.1, fun x h1 h2 => this.2.2 x h1 x h2 rfl⟩
  rw [List.all_eq_true] at hon
  let m1 : Nat → Option Value := fun h => if h ∈ keys L1 then m h else none
  have hm1 : ∀ h x, m1 h = some x → m h = some x ∧ h ∈ keys L1 := by
    intro h x hx
    by_cases hh : h ∈ keys L1
    · simp only [m1, if_pos hh] at hx; exact ⟨hx, hh⟩
    · simp only [m1, if_neg hh] at hx; cases hx
  have hm1' : ∀ h x, h ∈ keys L1 → m h = some x → m1 h = some x := fun h x hh hx => by simp only [m1, if_pos hh]; exact hx
  let fo1 : FO := fun b => fo b ∨ ∃ h x, h ∈ keys L2 ∧ m h = some x ∧ blk x b
  have hOO : ∀ b, OO fo1 m1 b ↔ OO fo m b := by
    intro b
    constructor
    · rintro (⟨h, x, hx, hb⟩ | h | ⟨h, x, hh, hx, hb⟩)
      · exact .inl ⟨h, x, (hm1 h x hx).1, hb⟩
      · exact .inr h
      · exact .inl ⟨h, x, hx, hb⟩
    · rintro (⟨h, x, hx, hb⟩ | h)
      · rcases (hkeys h).1 (hi.dom h x hx) with hh | hh
        · exact .inl ⟨h, x, hm1' h x hh hx, hb⟩
        · exact .inr (.inr ⟨h, x, hh, hx, hb⟩)
      · exact .inr (.inl h)
  have hi1 : Inv fo1 m1 L1 w := by
    refine ⟨hnd.1, fun h x hx => (hm1 h x hx).2, ?_, ?_, ?_, ?_, hi.glob.mono (Keep.refl w _) (fun b _ hb => (hOO b).1 hb)⟩
    · intro h h' x x' b hx hx' hb hb'
      exact hi.apart h h' x x' b (hm1 h x hx).1 (hm1 h' x' hx').1 hb hb'
    · rintro h x b hx hb (hf | ⟨h', x', hh', hx', hb'⟩)
      · exact hi.others h x b (hm1 h x hx).1 hb hf
      · have := hi.apart h h' x x' b (hm1 h x hx).1 hx' hb hb'
        subst this
        exact hnd.2.2 h (hm1 h x hx).2 hh'
    · rintro b (hf | ⟨h', x', hh', hx', hb'⟩)
      · exact hi.folt b hf
      · exact hi.lt hx' hb'
    · intro h r hr
      obtain ⟨x, hx, hh⟩ := hi.holds h r (hL.mem_iff.2 (List.mem_append_left _ hr))
      have hk : h ∈ keys L1 := List.mem_map.2 ⟨_, hr, rfl⟩
      exact ⟨x, hm1' h x hk hx, (hh.on hm1' (hon _ hr)).mono (fun _ _ => rfl) (Keep.refl w _) (fun b _ hb => (hOO b).1 hb) (fun _ _ e => e)⟩
  have hrel : RelVs w (OO fo1 m1) m1 xs args := by
    refine ⟨h2.1, fun j v y hv hy => ?_⟩
    exact ((h2.2 j v y hv hy).on hm1' (ons_mem ho y (List.mem_of_getElem? hy))).mono (Keep.refl w _) (fun b _ hb => (hOO b).1 hb) (fun _ _ e => e)
  have hown : ∀ b, own m1 b → own m b := by
    rintro b ⟨h, x, hx, hb⟩
    exact ⟨h, x, (hm1 h x hx).1, hb⟩
  refine (h fo1 m1 w xs hi1 hrel).mono ?_
  rintro e w' ⟨v, rfl, hv, hi', st'⟩
  have hkeep : Keep w (OO fo m) w' := ⟨st'.size, fun b hb hno => st'.block b hb (fun h => hno (.inl (hown b h)))⟩
  refine ⟨v, rfl, hv.mono (Keep.refl w' _) (fun b _ hb => (hOO b).2 hb) (fun h x hx => (hm1 h x hx).1), ⟨hi.nodup, hi.dom, hi.apart, hi.others, fun b hb => Nat.lt_of_lt_of_le (hi.folt b hb) st'.size, ?_, hi.glob.mono hkeep (fun _ _ h => h)⟩,
    ⟨st'.os, st'.tape, st'.output, st'.size, fun b hb ho1 => st'.block b hb (fun h => ho1 (hown b h)), fun b _ hb => hb⟩⟩
  intro h r hr
  rcases List.mem_append.1 (hL.mem_iff.1 hr) with hr' | hr'
  · obtain ⟨z, hz, hzh⟩ := hi'.holds h r hr'
    exact ⟨z, (hm1 h z hz).1, hzh.mono (fun _ _ => rfl) (Keep.refl w' _) (fun b _ hb => (hOO b).2 hb) (fun h x hx => (hm1 h x hx).1)⟩
  · obtain ⟨z, hz, hzh⟩ := hi.holds h r hr
    have hk : h ∈ keys L2 := List.mem_map.2 ⟨_, hr', rfl⟩
    refine ⟨z, hz, hzh.mono (fun b hb => st'.block b (hi.lt hz hb) (fun ho1 => ?_)) hkeep (fun _ _ h => h) (fun _ _ e => e)⟩
    obtain ⟨h', y', hy', hb'⟩ := ho1
    have := hi.apart h h' z y' b hz (hm1 h' y' hy').1 hb hb'
    subst this
    exact hnd.2.2 h (hm1 h y' hy').2 hk
theorem OKCall.read (hs : List Nat) {f : FuncId} {args : List V} {x : V} {L L1 : Heap} (h : RCalls P f args L1 x) (hL : L.filter (fun p => hs.contains p.1) = L1) (he : enters P f = true) (ho : V.ons (keys L1) args = true) (hon : L1.all (fun p => Res.on (keys L1) p.2) = true) : OKCall P f args L x :=
  fun _ _ _ hop hc => OpT.read L1 (L.filter fun p => !hs.contains p.1) hop hc he (by subst hL; exact (List.filter_append_perm _ L).symm) ho hon h
theorem AOps.readC {ops : Array Oper} {o : Oper} {rest : List Oper} {c : Call} {s : St} {f : FuncId} {args : List V} {x : V} {L1 : Heap} (hs : List Nat) (hop : o.op = .call c) (h : RCalls P f args L1 x) (hc : callee s.ev c = some (f, args)) (hg : o.guard = none)
    (hd : ∀ d, o.dst = some d → d < n) (hr : dstsOk n rest = true) (he : enters P f = true) (hL : s.L.filter (fun p => hs.contains p.1) = L1) (ho : V.ons (keys L1) args = true) (hon : L1.all (fun p => Res.on (keys L1) p.2) = true)
    (k : ∀ bs, runC P ops rest (s.put o.dst x) bs [] (KK P n ops Q)) : AOps P n ops (o :: rest) s Q :=
  AOps.quietT hg hd (OpT.read L1 (s.L.filter fun p => !hs.contains p.1) hop hc he (by subst hL; exact (List.filter_append_perm _ s.L).symm) ho hon h) (runC_sound rest _ [] hr k)
end
end Go.Ab

namespace Go.Ab
section
variable {P : Program} {n : Nat} {Q : AX → St → Prop}
end
end Go.Ab
namespace Go.Ab
section
variable {P : Program} {n : Nat} {Q : AX → St → Prop}
attribute [simp] runD
end
end Go.Ab

namespace Go.Ab
open Go.Proofs
def wkG (c0 c1 : V) (s : GStory) (F : Int) (m : GMachine) : List V := c0 :: c1 :: (m.Env.enc.map V.d ++ (m.Told.enc.map V.d ++ (.d (.v (.bool m.Done)) :: (s.enc.map V.d ++ [.d (.v (.int .i64 F))]))))
abbrev wkC (s : GStory) (F : Int) (m : GMachine) : List V := wkG (.rv 5005) (.rv 5004) s F m
@[simp] theorem wkG_len (c0 c1 : V) (s : GStory) (F : Int) (m : GMachine) : (wkG c0 c1 s F m).length = 42 := rfl
@[simp] theorem wkG_0 (c0 c1 : V) (s : GStory) (F : Int) (m : GMachine) : (wkG c0 c1 s F m)[0]? = some c0 := rfl
@[simp] theorem wkG_g0 (c0 c1 : V) (s : GStory) (F : Int) (m : GMachine) (h : 0 < (wkG c0 c1 s F m).length) : (wkG c0 c1 s F m)[0] = c0 := rfl
@[simp] theorem wkG_1 (c0 c1 : V) (s : GStory) (F : Int) (m : GMachine) : (wkG c0 c1 s F m)[1]? = some c1 := rfl
@[simp] theorem wkG_g1 (c0 c1 : V) (s : GStory) (F : Int) (m : GMachine) (h : 1 < (wkG c0 c1 s F m).length) : (wkG c0 c1 s F m)[1] = c1 := rfl
@[simp] theorem wkG_2 (c0 c1 : V) (s : GStory) (F : Int) (m : GMachine) : (wkG c0 c1 s F m)[2]? = some (.d (.v (.int .i64 m.Env.Noun))) := rfl
@[simp] theorem wkG_g2 (c0 c1 : V) (s : GStory) (F : Int) (m : GMachine) (h : 2 < (wkG c0 c1 s F m).length) : (wkG c0 c1 s F m)[2] = .d (.v (.int .i64 m.Env.Noun)) := rfl
@[simp] theorem wkG_3 (c0 c1 : V) (s : GStory) (F : Int) (m : GMachine) : (wkG c0 c1 s F m)[3]? = some (.d (.v (.int .i64 m.Env.Second))) := rfl
@[simp] theorem wkG_g3 (c0 c1 : V) (s : GStory) (F : Int) (m : GMachine) (h : 3 < (wkG c0 c1 s F m).length) : (wkG c0 c1 s F m)[3] = .d (.v (.int .i64 m.Env.Second)) := rfl
@[simp] theorem wkG_4 (c0 c1 : V) (s : GStory) (F : Int) (m : GMachine) : (wkG c0 c1 s F m)[4]? = some (.d (.v (.int .i64 m.Env.Number))) := rfl
@[simp] theorem wkG_g4 (c0 c1 : V) (s : GStory) (F : Int) (m : GMachine) (h : 4 < (wkG c0 c1 s F m).length) : (wkG c0 c1 s F m)[4] = .d (.v (.int .i64 m.Env.Number)) := rfl
@[simp] theorem wkG_5 (c0 c1 : V) (s : GStory) (F : Int) (m : GMachine) : (wkG c0 c1 s F m)[5]? = some (.d (.v (.int .i64 m.Told.Err))) := rfl
@[simp] theorem wkG_g5 (c0 c1 : V) (s : GStory) (F : Int) (m : GMachine) (h : 5 < (wkG c0 c1 s F m).length) : (wkG c0 c1 s F m)[5] = .d (.v (.int .i64 m.Told.Err)) := rfl
@[simp] theorem wkG_6 (c0 c1 : V) (s : GStory) (F : Int) (m : GMachine) : (wkG c0 c1 s F m)[6]? = some (.d (.sl (encI m.Told.World.Globals))) := rfl
@[simp] theorem wkG_g6 (c0 c1 : V) (s : GStory) (F : Int) (m : GMachine) (h : 6 < (wkG c0 c1 s F m).length) : (wkG c0 c1 s F m)[6] = .d (.sl (encI m.Told.World.Globals)) := rfl
@[simp] theorem wkG_7 (c0 c1 : V) (s : GStory) (F : Int) (m : GMachine) : (wkG c0 c1 s F m)[7]? = some (.d (.sl (encI m.Told.World.Parent))) := rfl
@[simp] theorem wkG_g7 (c0 c1 : V) (s : GStory) (F : Int) (m : GMachine) (h : 7 < (wkG c0 c1 s F m).length) : (wkG c0 c1 s F m)[7] = .d (.sl (encI m.Told.World.Parent)) := rfl
@[simp] theorem wkG_8 (c0 c1 : V) (s : GStory) (F : Int) (m : GMachine) : (wkG c0 c1 s F m)[8]? = some (.d (.sl (encI m.Told.World.Child))) := rfl
@[simp] theorem wkG_g8 (c0 c1 : V) (s : GStory) (F : Int) (m : GMachine) (h : 8 < (wkG c0 c1 s F m).length) : (wkG c0 c1 s F m)[8] = .d (.sl (encI m.Told.World.Child)) := rfl
@[simp] theorem wkG_9 (c0 c1 : V) (s : GStory) (F : Int) (m : GMachine) : (wkG c0 c1 s F m)[9]? = some (.d (.sl (encI m.Told.World.Next))) := rfl
@[simp] theorem wkG_g9 (c0 c1 : V) (s : GStory) (F : Int) (m : GMachine) (h : 9 < (wkG c0 c1 s F m).length) : (wkG c0 c1 s F m)[9] = .d (.sl (encI m.Told.World.Next)) := rfl
@[simp] theorem wkG_10 (c0 c1 : V) (s : GStory) (F : Int) (m : GMachine) : (wkG c0 c1 s F m)[10]? = some (.d (.sl (encI m.Told.World.Flags))) := rfl
@[simp] theorem wkG_g10 (c0 c1 : V) (s : GStory) (F : Int) (m : GMachine) (h : 10 < (wkG c0 c1 s F m).length) : (wkG c0 c1 s F m)[10] = .d (.sl (encI m.Told.World.Flags)) := rfl
@[simp] theorem wkG_11 (c0 c1 : V) (s : GStory) (F : Int) (m : GMachine) : (wkG c0 c1 s F m)[11]? = some (.d (.sl (encI m.Told.World.Props))) := rfl
@[simp] theorem wkG_g11 (c0 c1 : V) (s : GStory) (F : Int) (m : GMachine) (h : 11 < (wkG c0 c1 s F m).length) : (wkG c0 c1 s F m)[11] = .d (.sl (encI m.Told.World.Props)) := rfl
@[simp] theorem wkG_12 (c0 c1 : V) (s : GStory) (F : Int) (m : GMachine) : (wkG c0 c1 s F m)[12]? = some (.d (.sl (encI m.Told.World.Timers))) := rfl
@[simp] theorem wkG_g12 (c0 c1 : V) (s : GStory) (F : Int) (m : GMachine) (h : 12 < (wkG c0 c1 s F m).length) : (wkG c0 c1 s F m)[12] = .d (.sl (encI m.Told.World.Timers)) := rfl
@[simp] theorem wkG_13 (c0 c1 : V) (s : GStory) (F : Int) (m : GMachine) : (wkG c0 c1 s F m)[13]? = some (.d (.v (.int .u64 m.Told.World.Seed))) := rfl
@[simp] theorem wkG_g13 (c0 c1 : V) (s : GStory) (F : Int) (m : GMachine) (h : 13 < (wkG c0 c1 s F m).length) : (wkG c0 c1 s F m)[13] = .d (.v (.int .u64 m.Told.World.Seed)) := rfl
@[simp] theorem wkG_14 (c0 c1 : V) (s : GStory) (F : Int) (m : GMachine) : (wkG c0 c1 s F m)[14]? = some (.d (.v (.int .i64 m.Told.World.Score))) := rfl
@[simp] theorem wkG_g14 (c0 c1 : V) (s : GStory) (F : Int) (m : GMachine) (h : 14 < (wkG c0 c1 s F m).length) : (wkG c0 c1 s F m)[14] = .d (.v (.int .i64 m.Told.World.Score)) := rfl
@[simp] theorem wkG_15 (c0 c1 : V) (s : GStory) (F : Int) (m : GMachine) : (wkG c0 c1 s F m)[15]? = some (.d (.v (.int .i64 m.Told.World.Turns))) := rfl
@[simp] theorem wkG_g15 (c0 c1 : V) (s : GStory) (F : Int) (m : GMachine) (h : 15 < (wkG c0 c1 s F m).length) : (wkG c0 c1 s F m)[15] = .d (.v (.int .i64 m.Told.World.Turns)) := rfl
@[simp] theorem wkG_16 (c0 c1 : V) (s : GStory) (F : Int) (m : GMachine) : (wkG c0 c1 s F m)[16]? = some (.d (.v (.int .i64 m.Told.World.Over))) := rfl
@[simp] theorem wkG_g16 (c0 c1 : V) (s : GStory) (F : Int) (m : GMachine) (h : 16 < (wkG c0 c1 s F m).length) : (wkG c0 c1 s F m)[16] = .d (.v (.int .i64 m.Told.World.Over)) := rfl
@[simp] theorem wkG_17 (c0 c1 : V) (s : GStory) (F : Int) (m : GMachine) : (wkG c0 c1 s F m)[17]? = some (.d (.v (.int .i64 m.Told.World.It))) := rfl
@[simp] theorem wkG_g17 (c0 c1 : V) (s : GStory) (F : Int) (m : GMachine) (h : 17 < (wkG c0 c1 s F m).length) : (wkG c0 c1 s F m)[17] = .d (.v (.int .i64 m.Told.World.It)) := rfl
@[simp] theorem wkG_18 (c0 c1 : V) (s : GStory) (F : Int) (m : GMachine) : (wkG c0 c1 s F m)[18]? = some (.d (.v (.int .i64 m.Told.World.Go))) := rfl
@[simp] theorem wkG_g18 (c0 c1 : V) (s : GStory) (F : Int) (m : GMachine) (h : 18 < (wkG c0 c1 s F m).length) : (wkG c0 c1 s F m)[18] = .d (.v (.int .i64 m.Told.World.Go)) := rfl
@[simp] theorem wkG_19 (c0 c1 : V) (s : GStory) (F : Int) (m : GMachine) : (wkG c0 c1 s F m)[19]? = some (.d (.v (.string m.Told.Out))) := rfl
@[simp] theorem wkG_g19 (c0 c1 : V) (s : GStory) (F : Int) (m : GMachine) (h : 19 < (wkG c0 c1 s F m).length) : (wkG c0 c1 s F m)[19] = .d (.v (.string m.Told.Out)) := rfl
@[simp] theorem wkG_20 (c0 c1 : V) (s : GStory) (F : Int) (m : GMachine) : (wkG c0 c1 s F m)[20]? = some (.d (.v (.int .i64 m.Told.Value))) := rfl
@[simp] theorem wkG_g20 (c0 c1 : V) (s : GStory) (F : Int) (m : GMachine) (h : 20 < (wkG c0 c1 s F m).length) : (wkG c0 c1 s F m)[20] = .d (.v (.int .i64 m.Told.Value)) := rfl
@[simp] theorem wkG_21 (c0 c1 : V) (s : GStory) (F : Int) (m : GMachine) : (wkG c0 c1 s F m)[21]? = some (.d (.v (.bool m.Told.Stopped))) := rfl
@[simp] theorem wkG_g21 (c0 c1 : V) (s : GStory) (F : Int) (m : GMachine) (h : 21 < (wkG c0 c1 s F m).length) : (wkG c0 c1 s F m)[21] = .d (.v (.bool m.Told.Stopped)) := rfl
@[simp] theorem wkG_22 (c0 c1 : V) (s : GStory) (F : Int) (m : GMachine) : (wkG c0 c1 s F m)[22]? = some (.d (.v (.int .i64 m.Told.Fuel))) := rfl
@[simp] theorem wkG_g22 (c0 c1 : V) (s : GStory) (F : Int) (m : GMachine) (h : 22 < (wkG c0 c1 s F m).length) : (wkG c0 c1 s F m)[22] = .d (.v (.int .i64 m.Told.Fuel)) := rfl
@[simp] theorem wkG_23 (c0 c1 : V) (s : GStory) (F : Int) (m : GMachine) : (wkG c0 c1 s F m)[23]? = some (.d (.v (.bool m.Done))) := rfl
@[simp] theorem wkG_g23 (c0 c1 : V) (s : GStory) (F : Int) (m : GMachine) (h : 23 < (wkG c0 c1 s F m).length) : (wkG c0 c1 s F m)[23] = .d (.v (.bool m.Done)) := rfl
@[simp] theorem wkG_32 (c0 c1 : V) (s : GStory) (F : Int) (m : GMachine) : (wkG c0 c1 s F m)[32]? = some (.d (.sl (s.Tables.Things.map GThing.enc))) := rfl
@[simp] theorem wkG_g32 (c0 c1 : V) (s : GStory) (F : Int) (m : GMachine) (h : 32 < (wkG c0 c1 s F m).length) : (wkG c0 c1 s F m)[32] = .d (.sl (s.Tables.Things.map GThing.enc)) := rfl
@[simp] theorem wkG_35 (c0 c1 : V) (s : GStory) (F : Int) (m : GMachine) : (wkG c0 c1 s F m)[35]? = some (.d (.sl (encI s.Tables.Funcs))) := rfl
@[simp] theorem wkG_g35 (c0 c1 : V) (s : GStory) (F : Int) (m : GMachine) (h : 35 < (wkG c0 c1 s F m).length) : (wkG c0 c1 s F m)[35] = .d (.sl (encI s.Tables.Funcs)) := rfl
@[simp] theorem wkG_37 (c0 c1 : V) (s : GStory) (F : Int) (m : GMachine) : (wkG c0 c1 s F m)[37]? = some (.d (.sl (encI s.Tables.Params))) := rfl
@[simp] theorem wkG_g37 (c0 c1 : V) (s : GStory) (F : Int) (m : GMachine) (h : 37 < (wkG c0 c1 s F m).length) : (wkG c0 c1 s F m)[37] = .d (.sl (encI s.Tables.Params)) := rfl
@[simp] theorem wkG_38 (c0 c1 : V) (s : GStory) (F : Int) (m : GMachine) : (wkG c0 c1 s F m)[38]? = some (.d (.sl (encI s.Tables.Locals))) := rfl
@[simp] theorem wkG_g38 (c0 c1 : V) (s : GStory) (F : Int) (m : GMachine) (h : 38 < (wkG c0 c1 s F m).length) : (wkG c0 c1 s F m)[38] = .d (.sl (encI s.Tables.Locals)) := rfl
@[simp] theorem wkG_41 (c0 c1 : V) (s : GStory) (F : Int) (m : GMachine) : (wkG c0 c1 s F m)[41]? = some (.d (.v (.int .i64 F))) := rfl
@[simp] theorem wkG_g41 (c0 c1 : V) (s : GStory) (F : Int) (m : GMachine) (h : 41 < (wkG c0 c1 s F m).length) : (wkG c0 c1 s F m)[41] = .d (.v (.int .i64 F)) := rfl
@[simp] theorem wkG_put14 (c0 c1 : V) (s : GStory) (F : Int) (m : GMachine) (n : Int) : List.take 14 (wkG c0 c1 s F m) ++ V.d (.v (.int .i64 n)) :: List.drop 15 (wkG c0 c1 s F m) = wkG c0 c1 s F { m with Told := { m.Told with World := { m.Told.World with Score := n } } } := rfl
@[simp] theorem wkG_set14 (c0 c1 : V) (s : GStory) (F : Int) (m : GMachine) (n : Int) : (wkG c0 c1 s F m).set 14 (.d (.v (.int .i64 n))) = wkG c0 c1 s F { m with Told := { m.Told with World := { m.Told.World with Score := n } } } := rfl
@[simp] theorem wkG_put16 (c0 c1 : V) (s : GStory) (F : Int) (m : GMachine) (n : Int) : List.take 16 (wkG c0 c1 s F m) ++ V.d (.v (.int .i64 n)) :: List.drop 17 (wkG c0 c1 s F m) = wkG c0 c1 s F { m with Told := { m.Told with World := { m.Told.World with Over := n } } } := rfl
@[simp] theorem wkG_set16 (c0 c1 : V) (s : GStory) (F : Int) (m : GMachine) (n : Int) : (wkG c0 c1 s F m).set 16 (.d (.v (.int .i64 n))) = wkG c0 c1 s F { m with Told := { m.Told with World := { m.Told.World with Over := n } } } := rfl
@[simp] theorem wkG_put18 (c0 c1 : V) (s : GStory) (F : Int) (m : GMachine) (n : Int) : List.take 18 (wkG c0 c1 s F m) ++ V.d (.v (.int .i64 n)) :: List.drop 19 (wkG c0 c1 s F m) = wkG c0 c1 s F { m with Told := { m.Told with World := { m.Told.World with Go := n } } } := rfl
@[simp] theorem wkG_set18 (c0 c1 : V) (s : GStory) (F : Int) (m : GMachine) (n : Int) : (wkG c0 c1 s F m).set 18 (.d (.v (.int .i64 n))) = wkG c0 c1 s F { m with Told := { m.Told with World := { m.Told.World with Go := n } } } := rfl
@[simp] theorem wkG_put19 (c0 c1 : V) (s : GStory) (F : Int) (m : GMachine) (n : ByteArray) : List.take 19 (wkG c0 c1 s F m) ++ V.d (.v (.string n)) :: List.drop 20 (wkG c0 c1 s F m) = wkG c0 c1 s F { m with Told := { m.Told with Out := n } } := rfl
@[simp] theorem wkG_set19 (c0 c1 : V) (s : GStory) (F : Int) (m : GMachine) (n : ByteArray) : (wkG c0 c1 s F m).set 19 (.d (.v (.string n))) = wkG c0 c1 s F { m with Told := { m.Told with Out := n } } := rfl
@[simp] theorem wkG_put20 (c0 c1 : V) (s : GStory) (F : Int) (m : GMachine) (n : Int) : List.take 20 (wkG c0 c1 s F m) ++ V.d (.v (.int .i64 n)) :: List.drop 21 (wkG c0 c1 s F m) = wkG c0 c1 s F { m with Told := { m.Told with Value := n } } := rfl
@[simp] theorem wkG_set20 (c0 c1 : V) (s : GStory) (F : Int) (m : GMachine) (n : Int) : (wkG c0 c1 s F m).set 20 (.d (.v (.int .i64 n))) = wkG c0 c1 s F { m with Told := { m.Told with Value := n } } := rfl
@[simp] theorem wkG_put21 (c0 c1 : V) (s : GStory) (F : Int) (m : GMachine) (n : Bool) : List.take 21 (wkG c0 c1 s F m) ++ V.d (.v (.bool n)) :: List.drop 22 (wkG c0 c1 s F m) = wkG c0 c1 s F { m with Told := { m.Told with Stopped := n } } := rfl
@[simp] theorem wkG_set21 (c0 c1 : V) (s : GStory) (F : Int) (m : GMachine) (n : Bool) : (wkG c0 c1 s F m).set 21 (.d (.v (.bool n))) = wkG c0 c1 s F { m with Told := { m.Told with Stopped := n } } := rfl
@[simp] theorem wkG_put22 (c0 c1 : V) (s : GStory) (F : Int) (m : GMachine) (n : Int) : List.take 22 (wkG c0 c1 s F m) ++ V.d (.v (.int .i64 n)) :: List.drop 23 (wkG c0 c1 s F m) = wkG c0 c1 s F { m with Told := { m.Told with Fuel := n } } := rfl
@[simp] theorem wkG_set22 (c0 c1 : V) (s : GStory) (F : Int) (m : GMachine) (n : Int) : (wkG c0 c1 s F m).set 22 (.d (.v (.int .i64 n))) = wkG c0 c1 s F { m with Told := { m.Told with Fuel := n } } := rfl
@[simp] theorem wkG_put23 (c0 c1 : V) (s : GStory) (F : Int) (m : GMachine) (n : Bool) : List.take 23 (wkG c0 c1 s F m) ++ V.d (.v (.bool n)) :: List.drop 24 (wkG c0 c1 s F m) = wkG c0 c1 s F { m with Done := n } := rfl
@[simp] theorem wkG_set23 (c0 c1 : V) (s : GStory) (F : Int) (m : GMachine) (n : Bool) : (wkG c0 c1 s F m).set 23 (.d (.v (.bool n))) = wkG c0 c1 s F { m with Done := n } := rfl
@[simp] theorem wkG_T (c0 c1 : V) (s : GStory) (F : Int) (m : GMachine) : List.take 15 (List.drop 24 (wkG c0 c1 s F m)) = s.Tables.enc.map .d := rfl
@[simp] theorem wkG_S (c0 c1 : V) (s : GStory) (F : Int) (m : GMachine) : List.take 17 (List.drop 24 (wkG c0 c1 s F m)) = s.enc.map .d := rfl
@[simp] theorem wkG_W (c0 c1 : V) (s : GStory) (F : Int) (m : GMachine) : List.take 13 (List.drop 6 (wkG c0 c1 s F m)) = m.Told.World.enc.map .d := rfl
@[simp] theorem wkG_E (c0 c1 : V) (s : GStory) (F : Int) (m : GMachine) : List.take 3 (List.drop 2 (wkG c0 c1 s F m)) = m.Env.enc.map .d := rfl
@[simp] theorem wkG_putW (c0 c1 : V) (s : GStory) (F : Int) (m : GMachine) (w : GWorld) : List.take 6 (wkG c0 c1 s F m) ++ (w.enc.map V.d ++ List.drop 19 (wkG c0 c1 s F m)) = wkG c0 c1 s F { m with Told := { m.Told with World := w } } := rfl
@[simp] theorem wkG_put0 (x c0 c1 : V) (s : GStory) (F : Int) (m : GMachine) : x :: List.drop 1 (wkG c0 c1 s F m) = wkG x c1 s F m := rfl
@[simp] theorem wkG_put0t (x c0 c1 : V) (s : GStory) (F : Int) (m : GMachine) : x :: (wkG c0 c1 s F m).tail = wkG x c1 s F m := rfl
@[simp] theorem wkG_put1 (x c0 c1 : V) (s : GStory) (F : Int) (m : GMachine) : List.take 1 (wkG c0 c1 s F m) ++ x :: List.drop 2 (wkG c0 c1 s F m) = wkG c0 x s F m := rfl
theorem ons_appV (ks : List Nat) : ∀ (a b : List V), V.ons ks (a ++ b) = (V.ons ks a && V.ons ks b)
  | [], b => by simp [V.ons]
  | x :: a, b => by simp [V.ons, ons_appV ks a b, Bool.and_assoc]
theorem rens_appV (h g : Nat) (a b : List V) : V.rens h g (a ++ b) = V.rens h g a ++ V.rens h g b := by simp [rens_eq]
theorem frzs_appV (h : Nat) (y : V) (a b : List V) : V.frzs h y (a ++ b) = V.frzs h y a ++ V.frzs h y b := by simp [frzs_eq]
@[simp] theorem wkG_on (ks : List Nat) (c0 c1 : V) (s : GStory) (F : Int) (m : GMachine) : V.ons ks (wkG c0 c1 s F m) = (c0.on ks && c1.on ks) := by
  simp [wkG, ons_appV, V.ons, V.on]
@[simp] theorem wkG_kill (h : Nat) (c0 c1 : V) (s : GStory) (F : Int) (m : GMachine) : V.kills h (wkG c0 c1 s F m) = wkG (c0.kill h) (c1.kill h) s F m := by
  rw [kills_eq]
  simp only [wkG, List.map_cons, List.map_append, ← kills_eq, kills_d]
  simp [V.kills, V.kill]
@[simp] theorem wkG_frz (h : Nat) (y c0 c1 : V) (s : GStory) (F : Int) (m : GMachine) : V.frzs h y (wkG c0 c1 s F m) = wkG (V.frz h y c0) (V.frz h y c1) s F m := by
  unfold wkG
  simp [V.frzs, V.frz, frzs_appV, frzs_dmap]
@[simp] theorem wkG_ren (h g : Nat) (c0 c1 : V) (s : GStory) (F : Int) (m : GMachine) : V.rens h g (wkG c0 c1 s F m) = wkG (c0.ren h g) (c1.ren h g) s F m := by
  unfold wkG
  simp [V.rens, V.ren, rens_appV, rens_d]
def muL (wb : Nat) (s : GStory) (F : Int) (m : GMachine) : Heap := [(5003, .box (wb + 1) 106 (wkC s F m)), (5004, .row 3 1 (dd (encI m.Stack))), (5005, .row 100 4 (dd (m.Frames.map GFrame.enc)))]
theorem push_ok (wb : Nat) (s : GStory) (F : Int) (m : GMachine) (n : Int) (hl : m.Stack.length ≤ 1000000) : ACalls Tryz.prog 151 [.bp 5003 0, .d (.v (.int .i64 n))] (muL wb s F m) (fun r L => r = .ret (.tup []) ∧ L = muL wb s F { m with Stack := m.Stack ++ [wrapM n] }) := by
  have hw := (wrap_ok n).ok
  unfold muL
  refine ACalls.runX [] [5003, 5004, 5005] Tryz.func151 rfl (by simp [Tryz.f151]) ?_; simp [-cB, Tryz.f151]
  refine AWP.regionM0 [some (0, 2), some (0, 1), some (0, 1), some (0, 1), some (0, 1), some (0, 1), some (0, 0), some (0, 0), none, none, some (2, 2), some (2, 2), some (2, 2), none] [.d (.v (.int .i64 (wrapM n)))] Tryz.mixed (by kernel_rfl) ?_
  simp [-cB, hw]
  exact ⟨by omega, rfl⟩
theorem pop_ok (wb : Nat) (s : GStory) (F : Int) (m : GMachine) (S : List Int) (v : Int) (h : m.Stack = S ++ [v]) (hl : S.length ≤ 1000000) : ACalls Tryz.prog 103 [.bp 5003 0] (muL wb s F m) (fun r L => r = .ret (.d (.v (.int .i64 v))) ∧ L = muL wb s F { m with Stack := S }) := by
  unfold muL
  refine ACalls.runX [2] [5003, 5004, 5005] Tryz.func103 rfl (by simp [Tryz.f103]) ?_; simp [-cB, Tryz.f103]
  simp [h]
  refine AWP.regionD [] Tryz.mixed (by kernel_rfl) (by rfl) ?_
  simp [-cB, h]
  refine ⟨by rw [inR_i64]; omega, ?_⟩
  refine AWP.regionM0 [some (0, 1), some (0, 0), some (0, 0), some (0, 0), some (0, 0), some (0, 0), some (0, 0), some (0, 0), some (0, 0), some (0, 0), some (0, 0), some (0, 0), some (0, 0), none, some (1, 1), some (1, 1), some (1, 1), none] [] Tryz.mixed (by kernel_rfl) ?_
  simp [-cB]
  exact ⟨by rw [inR_i64]; omega, by omega, rfl⟩
theorem vtop_ok (wb : Nat) (s : GStory) (F : Int) (m : GMachine) (Fr : List GFrame) (f : GFrame) (h : m.Frames = Fr ++ [f]) (hl : Fr.length ≤ 1000000) : RCalls Tryz.prog 53 [.bp 5003 0] (muL wb s F m) (.ep 5005 4 Fr.length 0) := by
  unfold muL
  refine RCalls.run Tryz.func53 rfl (by simp [Tryz.f53]) ?_
  simp only [Tryz.f53]
  refine RW.seq (RW.one [] rfl (by kernel_rfl) (by rfl) ?_)
  simp [runD]
  refine RW.seq (RW.draw [] Tryz.mixed (by kernel_rfl) (by rfl) ?_)
  simp [runD]
  have hlen : m.Frames.length = Fr.length + 1 := by rw [h]; simp
  refine ⟨by rw [inR_i64]; omega, ⟨by omega, by omega⟩, RW.ret ?_⟩
  simp [readsTo, resVs, tupV, hlen]
theorem dd_setF {l Fr : List GFrame} {f : GFrame} (h : l = Fr ++ [f]) (x : List V) : (dd (List.map GFrame.enc l)).set Fr.length x = dd (List.map GFrame.enc Fr) ++ [x] := by
  subst h
  simp [dd, List.set_append]
theorem dd_app (a b : List (List D)) : dd (a ++ b) = dd a ++ dd b := by simp [dd]
theorem get_lastF {l Fr : List GFrame} {f : GFrame} (h : l = Fr ++ [f]) : l[Fr.length]? = some f := by subst h; simp
abbrev DoOK (wb : Nat) (s : GStory) (F : Int) (m : GMachine) (i : GIns) (m' : GMachine) : Prop := ACalls Tryz.prog 55 [.bp 5003 0, .agg (i.enc.map .d)] (muL wb s F m) (fun r L => r = .ret (.tup []) ∧ L = muL wb s F m')
end Go.Ab

namespace Go.Ab
open Go.Proofs
theorem hx1 {hx : List (Nat × Value)} {h : Nat} (e : hx.map Prod.fst = [h]) : ∃ x, hx = [(h, x)] := by
  match hx, e with
  | [(k, x)], e => simp at e; subst e; exact ⟨x, rfl⟩
theorem hx2 {hx : List (Nat × Value)} {h g : Nat} (e : hx.map Prod.fst = [h, g]) : ∃ x y, hx = [(h, x), (g, y)] := by
  match hx, e with
  | [(k, x), (j, y)], e => simp at e; obtain ⟨rfl, rfl⟩ := e; exact ⟨x, y, rfl⟩
end Go.Ab

namespace Go.Ab
open Go.Proofs
def muD (wb : Nat) (s : GStory) (F : Int) (m : GMachine) : Heap := [(5003, .box (wb + 1) 106 (wkG (.rv 5005) (.d (.sl (encI m.Stack))) s F m)), (5005, .row 100 4 (dd (m.Frames.map GFrame.enc)))]
set_option maxRecDepth 20000 in
set_option maxHeartbeats 2000000 in
theorem vback_ok (wb : Nat) (s : GStory) (F : Int) (m : GMachine) (Fr : List GFrame) (f : GFrame) (v : Int) (h : m.Frames = Fr ++ [f]) (hl : Fr.length ≤ 1000000) (hB : 0 ≤ f.Base ∧ f.Base ≤ m.Stack.length) (hSl : m.Stack.length ≤ 1000000) :
    ACalls Tryz.prog 105 [.bp 5003 0, .d (.v (.int .i64 v))] (muL wb s F m) (fun x L => x = .ret (.tup []) ∧ L = muL wb s F (if Fr = [] then { m with Stack := m.Stack.take f.Base.toNat, Frames := [], Done := true, Told := { m.Told with Value := v } } else { m with Stack := m.Stack.take f.Base.toNat ++ [wrapM v], Frames := Fr })) := by
  have ht := vtop_ok wb s F m Fr f h hl
  have hlen : m.Frames.length = Fr.length + 1 := by rw [h]; simp
  have hlt : Fr.length < m.Frames.length := by omega
  have hg := get_lastF h
  have hge : m.Frames[Fr.length]'hlt = f := by rw [List.getElem?_eq_getElem hlt] at hg; exact Option.some.inj hg
  unfold muL at *
  refine ACalls.runX [] [5003, 5004, 5005] Tryz.func105 rfl (by simp [Tryz.f105]) ?_; simp [-cB, Tryz.f105]
  refine AOps.readC [5003, 5004, 5005] rfl ht (by simp) rfl (by simp) rfl (by kernel_rfl) (by simp) (by simp) (by simp) ?_
  simp [-cB, hlt, hge]
  refine AWP.regionM0 [some (0, 1), some (0, 0), some (0, 0), some (0, 0), some (0, 0), some (0, 0), some (0, 0), some (0, 0), some (0, 0), some (0, 0), some (0, 0), some (0, 0), some (0, 0), none, some (1, 1), some (1, 1), some (1, 1), none] [] Tryz.mixed (by kernel_rfl) ?_
  simp [-cB, hlen]
  refine ⟨by rw [inR_i64]; omega, by omega, ?_⟩
  refine AWP.regionM0 [some (0, 1), some (0, 0), some (0, 0), some (0, 0), some (0, 0), some (0, 0), some (0, 0), some (0, 0), some (0, 0), some (0, 0), some (0, 0), some (0, 0), some (0, 0), some (0, 0), none, some (1, 1), some (1, 1), some (1, 1), none] [] Tryz.mixed (by kernel_rfl) ?_
  have hmin : (if (m.Stack.length : Int) < f.Base then (m.Stack.length : Int) else f.Base) = f.Base := if_neg (by omega)
  have hmn : min Fr.length m.Frames.length = Fr.length := Nat.min_eq_left (by omega)
  have hne : m.Frames ≠ [] := by rw [h]; simp
  have htk : List.take Fr.length (m.Frames.map GFrame.enc) = Fr.map GFrame.enc := by rw [h]; simp
  by_cases hFr : Fr = []
  · simp [-cB, hmin, hmn, hne, htk, hFr]
    exact ⟨hB, rfl⟩
  · have hp := push_ok wb s F { m with Stack := m.Stack.take f.Base.toNat, Frames := Fr } v (by simp; omega)
    unfold muL at hp
    simp [-cB, hmin, hmn, hne, htk, hFr]
    refine ⟨hB, ?_⟩
    refine AOps.weaken (Wk.pick [62, 63] [5003, 5004, 5005] (by rfl) (by decide) (by simp)) ?_
    simp [-cB]
    refine AOps.effD [5003, 5004, 5005] rfl (hp) (by simp) rfl (by simp) rfl (by kernel_rfl) (by first | rfl | simp) (by simp) (by simp) (by simp) (by simp) ?_
    simp
end Go.Ab

namespace Go.Ab
open Go.Proofs
abbrev DoOKD (wb : Nat) (s : GStory) (F : Int) (m : GMachine) (i : GIns) (m' : GMachine) : Prop := ACalls Tryz.prog 55 [.bp 5003 0, .agg (i.enc.map .d)] (muL wb s F m) (fun r L => r = .ret (.tup []) ∧ L = muD wb s F m')
abbrev DoNo (wb : Nat) (s : GStory) (F : Int) (m : GMachine) (i : GIns) (e : Int) : Prop := ∃ m', ACalls Tryz.prog 55 [.bp 5003 0, .agg (i.enc.map .d)] (muL wb s F m) (fun r L => r = .pan (faultV e) ∧ L = muL wb s F m')
theorem doReturn_ok (wb : Nat) (s : GStory) (F : Int) (m : GMachine) (i : GIns) (Fr : List GFrame) (f : GFrame) (S : List Int) (v : Int) (hop : i.Op = 27) (h : m.Frames = Fr ++ [f]) (hl : Fr.length ≤ 1000000) (hS : m.Stack = S ++ [v]) (hB : 0 ≤ f.Base ∧ f.Base ≤ S.length) (hSl : S.length ≤ 1000000) :
    DoOK wb s F m i (if Fr = [] then { m with Stack := S.take f.Base.toNat, Frames := [], Done := true, Told := { m.Told with Value := v } } else { m with Stack := S.take f.Base.toNat ++ [wrapM v], Frames := Fr }) := by
  have hp := pop_ok wb s F m S v hS hSl
  have hb := vback_ok wb s F { m with Stack := S } Fr f v h hl hB hSl
  unfold DoOK muL at *
  refine ACalls.runX [] [5003, 5004, 5005] Tryz.func55 rfl (by simp [Tryz.f55]) ?_; simp [-cB, Tryz.f55]
  intro bs
  simp [hop]
  refine AOps.effD [5003, 5004, 5005] rfl (hp) (by simp) rfl (by simp) rfl (by kernel_rfl) (by first | rfl | simp) (by simp) (by simp) (by simp) (by simp) ?_
  simp
  refine AOps.effD [5003, 5004, 5005] rfl (hb) (by simp) rfl (by simp) rfl (by kernel_rfl) (by first | rfl | simp) (by simp) (by simp) (by simp) (by simp) ?_
  simp
theorem doTick_ok (wb : Nat) (s : GStory) (F : Int) (m : GMachine) (i : GIns) (hop : i.Op = 37) (hF : 0 ≤ m.Told.Fuel ∧ m.Told.Fuel ≤ 1099511627776) (hc : ¬ F < m.Told.Fuel + 1) :
    DoOK wb s F m i { m with Told := { m.Told with Fuel := m.Told.Fuel + 1 } } := by
  have h64 : inR .i64 (m.Told.Fuel + 1) := by rw [inR_i64]; omega
  have hc2 : ¬ (if F < 0 then 0 else F) ≤ m.Told.Fuel := by split <;> omega
  unfold DoOK muL at *
  refine ACalls.runX [] [5003, 5004, 5005] Tryz.func55 rfl (by simp [Tryz.f55]) ?_; simp [-cB, Tryz.f55]
  intro bs
  simp [hop]
  refine AWP.regionD [] Tryz.mixed (by kernel_rfl) (by rfl) ?_
  simp [h64]
  exact fun h => absurd h hc2
theorem doTick_no (wb : Nat) (s : GStory) (F : Int) (m : GMachine) (i : GIns) (hop : i.Op = 37) (hF : 0 ≤ m.Told.Fuel ∧ m.Told.Fuel ≤ 1099511627776) (hc : F < m.Told.Fuel + 1) :
    DoNo wb s F m i 19 := by
  refine ⟨m, ?_⟩
  unfold muL at *
  refine ACalls.runX [] [5003, 5004, 5005] Tryz.func55 rfl (by simp [Tryz.f55]) ?_; simp [-cB, Tryz.f55]
  intro bs
  simp [hop]
  refine AWP.regionD [] Tryz.mixed (by kernel_rfl) (by rfl) ?_
  have hc2 : (if F < 0 then 0 else F) ≤ m.Told.Fuel := by split <;> omega
  simp [hc2]
  refine AOps.panic rfl rfl rfl ?_
  simp [faultV]
end Go.Ab

namespace Go.Ab
open Go.Proofs
theorem cloneF_ok (h : Nat) (l : List GFrame) (hl : l.length * 48 ≤ 140737488355328) : ACalls Tryz.prog 50 [.d (.sl (l.map GFrame.enc))] [] (fun r L => r = .ret (.rv h) ∧ L = [(h, .row 100 4 (dd (l.map GFrame.enc)))]) := by
  refine ACalls.rowR h ?_
  refine ACalls.run Tryz.func50 rfl (by simp [Tryz.f50]) ?_; simp [Tryz.f50]
  refine AOps.slNil rfl (by simp; exact ⟨rfl, rfl⟩) rfl rfl rfl (by simp) ?_
  intro b hb
  refine AOps.nil ?_
  cases b with
  | true =>
    have hl : l = [] := by have := hb rfl; simpa using this
    subst hl
    simp [-cB]
  | false =>
    simp [-cB]
    omega
theorem step_ok1 (s : GStory) (m : GMachine) (F : Int) (hd : m.Done = true) : Pure Tryz.prog 20 [.agg (s.enc.map .d), .agg (m.enc.map .d), .d (.v (.int .i64 F))] (.agg (m.enc.map .d)) := by
  refine ⟨by kernel_rfl, by simp, by simp, ?_⟩
  refine ACalls.of_BWP Tryz.func20 rfl (by simp [Tryz.f20]) ?_
  simp only [Tryz.f20]
  refine BWP.seqA rfl ?_
  refine AWP.ofK ?_
  simp [-cB]
  intro bs
  refine BWP.seqA rfl ?_
  refine AWP.ofK ?_
  simp [-cB, hd]
theorem DCalls.monoV {P : Program} {f : FuncId} {args : List V} {L : Heap} {px : Option V} {R R' : Option V → Heap → Prop} (h : DCalls P f args L px R) (hr : ∀ r L, R r L → R' r L) : DCalls P f args L px R' :=
  fun fo m w xs u hi hx hu => (h fo m w xs u hi hx hu).mono fun _ _ _ ⟨m', r, L', h1, h2⟩ => ⟨m', r, L', hr _ _ h1, h2⟩
theorem DCalls.monoW {P : Program} {f : FuncId} {args : List V} {L : Heap} {px : Option V} {R R' : Option V → Heap → Prop} (h : DCalls P f args L px R) (hr : ∀ r L, R r L → ∃ L2, L.Perm L2 ∧ R' r L2) : DCalls P f args L px R' :=
  fun fo m w xs u hi hx hu => (h fo m w xs u hi hx hu).mono fun _ _ _ ⟨m', r, L', h1, h2, h3, h4⟩ => by
    obtain ⟨L2, hp, hR⟩ := hr _ _ h1
    exact ⟨m', r, L2, hR, h2, h3.perm hp, h4⟩
theorem permS {α : Type} (A : List α) (x y z : α) : (A ++ [x, y, z]).Perm ([y, x] ++ (A ++ [z])) := by
  have h1 : (A ++ [x, y, z]).Perm (([x, y] ++ A) ++ [z]) := by
    have : A ++ [x, y, z] = (A ++ [x, y]) ++ [z] := by simp
    rw [this]; exact (List.perm_append_comm).append_right [z]
  have h2 : (([x, y] ++ A) ++ [z]).Perm (([y, x] ++ A) ++ [z]) := ((List.Perm.swap y x []).append_right A).append_right [z]
  have h3 := h1.trans h2
  simpa using h3
theorem stepDF_ok (m out : GMachine) (b4 b6 b3 : Nat) (px : Option Int) (A : Heap) (c3 : List V) (h4 : (A ++ [(3, Res.box (b3 + 1) 61 c3)]).all (fun p => Res.on (keys A ++ [3, 4, 6]) p.2) = true) (h5 : (∀ x, ¬ (4, x) ∈ A) ∧ ∀ x, ¬ (6, x) ∈ A) : DCalls Tryz.prog 49 [.bp 4 0, .bp 6 0] (A ++ [(6, .box (b6 + 1) 67 (out.enc.map .d)), (4, .box (b4 + 1) 67 (m.enc.map .d)), (3, .box (b3 + 1) 61 c3)]) (px.map faultV)
    (fun r L' => r = none ∧ L' = A ++ [(6, .box (b6 + 1) 67 ((match px with | none => out | some e => failedM m e).enc.map .d)), (4, .box (b4 + 1) 67 (m.enc.map .d)), (3, .box (b3 + 1) 61 c3)]) := by
  refine (DCalls.frame (stepDefer_ok m out b4 b6 px) (L2 := A ++ [(3, .box (b3 + 1) 61 c3)]) ?_ ?_ (by cases px <;> rfl) ?_ ?_ ?_).monoW ?_
  · exact permS _ _ _ _
  · simp [keys]
  · simp
  · have h4' : (∀ (a : Nat) (b : Res), (a, b) ∈ A → Res.on (keys A ++ [3, 4, 6]) b = true) ∧ V.ons (keys A ++ [3, 4, 6]) c3 = true := by
      simpa using h4
    rintro ⟨a, b⟩ hm
    have hk : keys (A ++ [(3, Res.box (b3 + 1) 61 c3)]) ++ [4, 6] = keys A ++ [3, 4, 6] := by simp [keys]
    rcases List.mem_append.1 hm with hm | hm
    · have := h4'.1 a b hm
      simpa [keys] using this
    · simp at hm
      obtain ⟨rfl, rfl⟩ := hm
      simpa [keys] using h4'.2
  · rintro r L1' ⟨rfl, rfl⟩
    exact ⟨by simpa [keys] using h5, boxes_stay (by simp)⟩
  · rintro r L1' ⟨L1'', ⟨rfl, rfl⟩, rfl⟩
    exact ⟨_, (permS _ _ _ _).symm, rfl, rfl⟩
theorem vcheck_ok : ACalls Tryz.prog 54 [.d (.v (.int .i64 0))] [] (fun r L => r = .ret (.tup []) ∧ L = []) := by
  refine ACalls.run Tryz.func54 rfl (by simp [Tryz.f54]) ?_
  simp [-cB, Tryz.f54]
theorem vcheck_no (e : Int) (he : e ≠ 0) : ACalls Tryz.prog 54 [.d (.v (.int .i64 e))] [] (fun r L => r = .pan (faultV e) ∧ L = []) := by
  refine ACalls.run Tryz.func54 rfl (by simp [Tryz.f54]) ?_
  simp [-cB, Tryz.f54]
  refine condC_split (fun h => ?_) (fun h => ?_) <;> simp at h
  · simp [-cB, h]
    refine AOps.panic rfl rfl rfl ?_
    simp [faultV]
  · exact absurd h he
theorem wkG_M (s : GStory) (F : Int) (m : GMachine) : List.take 24 (wkG (.d (.sl (m.Frames.map GFrame.enc))) (.d (.sl (encI m.Stack))) s F m) = m.enc.map V.d := rfl
def StepOut (s : GStory) (m : GMachine) (F : Int) (Fr : List GFrame) (f : GFrame) (i : GIns) (k e : Int) (m' : GMachine) : Prop :=
  (e ≠ 0 ∧ m' = failedM m e) ∨ (e = 0 ∧ ∀ wb, DoOK wb s F { m with Frames := Fr ++ [{ f with At := k }] } i m') ∨ (e = 0 ∧ ∀ wb, DoOKD wb s F { m with Frames := Fr ++ [{ f with At := k }] } i m') ∨ (e = 0 ∧ ∃ x, ∀ wb, DoNo wb s F { m with Frames := Fr ++ [{ f with At := k }] } i x ∧ m' = failedM m x)
set_option maxHeartbeats 4000000 in
theorem step_run (s : GStory) (m m' : GMachine) (F : Int) (Fr : List GFrame) (f : GFrame) (i : GIns) (k e : Int) (hd : m.Done = false) (h : m.Frames = Fr ++ [f]) (hl : m.Frames.length ≤ 1000000) (hS : m.Stack.length ≤ 1000000)
    (hdec : Pure Tryz.prog 52 [.d (.sl (s.Code.map fun y => [.v (.int .u8 y)])), .d (.v (.int .i64 f.At))] (.tup [.agg (i.enc.map .d), .d (.v (.int .i64 k)), .d (.v (.int .i64 e))])) (ho : StepOut s m F Fr f i k e m') : Pure Tryz.prog 20 [.agg (s.enc.map .d), .agg (m.enc.map .d), .d (.v (.int .i64 F))] (.agg (m'.enc.map .d)) := by
  refine ⟨by kernel_rfl, by simp, by simp, ?_⟩
  have hcF := cloneF_ok 5005 m.Frames (by omega)
  have hcS := cloneI_ok 5004 m.Stack (by omega)
  refine ACalls.of_BWP Tryz.func20 rfl (by simp [Tryz.f20]) ?_
  simp only [Tryz.f20]
  refine BWP.seqA rfl ?_
  refine AWP.ofK ?_
  simp [-cB]
  intro bs
  refine BWP.seqA rfl ?_
  refine AWP.ofK ?_
  simp [-cB]
  simp [hd]
  refine BWP.defer (hs := [(4, bs 1), (6, bs 2)]) rfl rfl (by decide) rfl rfl rfl rfl rfl rfl ⟨rfl, by simp [labs], rfl, by simp [labs], trivial⟩ (by kernel_rfl) rfl ?_
  refine AWP.seqK ?_
  simp [-cB]
  intro bs2
  refine AWP.weaken (s' := ⟨[(3, .bp 3 0), (4, .bp 4 0), (6, .bp 6 0), (7, .bp 19 0)], [(19, .box (bs2 0 + 1) 106 (wkG (.d (.sl (m.Frames.map GFrame.enc))) (.d (.sl (encI m.Stack))) s F m)), (6, .box (bs 2 + 1) 67 (GMachine.zero.enc.map .d)), (4, .box (bs 1 + 1) 67 (m.enc.map .d)), (3, .box (bs 0 + 1) 61 (s.enc.map .d))]⟩) ((Wk.pick [3, 4, 6, 7] [19, 6, 4, 3] (by rfl) (by decide) (by rfl)).trans (Wk.deep 0 (by rfl))) ?_
  refine AWP.seqK ?_
  refine AWP.regionE Tryz.mixed (OrdR.m0 [some (0, 2), some (0, 3), some (0, 0), some (0, 0), none, some (0, 1), some (0, 1), none, some (2, 2), some (2, 2), some (2, 2), none, some (3, 3), some (3, 3), some (3, 3), none] [] (by kernel_rfl) ?_)
  simp [-cB]
  refine EffM.intro (fun _ => LOp.call (s := ⟨_, _⟩) 5005 [] rfl hcF (by simp) rfl (by kernel_rfl) (by first | rfl | simp) (by simp) (boxes_stay (by simp)) (by simp) (by simp)) ?_
  simp [-cB]
  refine EffM.intro (fun _ => LOp.call (s := ⟨_, _⟩) 5004 [] rfl hcS (by simp) rfl (by kernel_rfl) (by first | rfl | simp) (by simp) (boxes_stay (by simp)) (by simp) (by simp)) ?_
  simp [-cB]
  refine AWP.weaken (Wk.ren 19 5003 (by simp [keys])) ?_
  refine AWP.weaken (Wk.pick [3, 4, 6, 7] [5003, 5004, 5005, 6, 4, 3] (by rfl) (by decide) (by simp)) ?_
  simp [-cB]
  refine AWP.seqK ?_
  have ht := vtop_ok (bs2 0) s F m Fr f h (by rw [h] at hl; simp at hl; omega)
  unfold muL at ht
  have hge : m.Frames[Fr.length]? = some f := get_lastF h
  refine AWP.regionM [some (0, 1), some (0, 1), some (0, 1), some (0, 1), some (0, 1), some (0, 1), some (0, 1), some (0, 1), some (0, 1), some (0, 1), some (0, 2), some (0, 2), none, none, some (2, 2), some (2, 2)] [.ep 5005 4 Fr.length 0, .tup [.agg (i.enc.map .d), .d (.v (.int .i64 k)), .d (.v (.int .i64 e))]] Tryz.mixed (by kernel_rfl) ?_
  have hltF : Fr.length < m.Frames.length := by rw [h]; simp
  have hge2 : m.Frames[Fr.length]'hltF = f := by rw [List.getElem?_eq_getElem hltF] at hge; exact Option.some.inj hge
  simp [-cB, hge2, hltF]
  refine ⟨OKCall.read [5003, 5004, 5005] ht (by simp) (by kernel_rfl) (by simp) (by simp), hdec.ok _, ⟨hdec.ok _, OKCall.read [5003, 5004, 5005] ht (by simp) (by kernel_rfl) (by simp) (by simp)⟩, ?_⟩
  intro bs3
  rcases ho with ⟨he, rfl⟩ | ho
  · refine AWP.seqK ?_
    simp [-cB]
    refine AOps.effPanK [] rfl (vcheck_no e he) (by simp) rfl (by simp) (by kernel_rfl) (by first | rfl | simp) (by simp) (by simp) (by simp) ?_
    simp
    refine ⟨by simp [labs], (stepDF_ok m GMachine.zero (bs 1) (bs 2) (bs 0) (some e) [_, _, _, _] _ (by simp) (by simp)).monoV ?_⟩
    rintro r L' ⟨rfl, rfl⟩
    simp [Back, labs, lfr, FPost, List.filter_cons, V.on]
  have he : e = 0 := by rcases ho with ho | ho | ho <;> exact ho.1
  subst he
  refine AWP.seqK ?_
  simp [-cB]
  refine AOps.effD [] rfl (vcheck_ok) (by simp) rfl (by simp) rfl (by kernel_rfl) (by first | rfl | simp) (by simp) (by simp) (by simp) (by simp) ?_
  simp [-cB]
  refine AWP.seqK ?_
  simp [-cB]
  refine AOps.readC [5003, 5004, 5005] rfl ht (by simp) rfl (by simp) rfl (by kernel_rfl) (by simp) (by simp) (by simp) ?_
  simp [-cB, hge2, hltF]
  have e5 : (dd (List.map GFrame.enc m.Frames)).set Fr.length (List.take 1 (List.map V.d f.enc) ++ V.d (D.v (Value.int IntKind.i64 k)) :: List.drop 2 (List.map V.d f.enc)) = dd (List.map GFrame.enc (Fr ++ [{ f with At := k }])) := by
    rw [dd_setF h, List.map_append, dd_app]; rfl
  rw [e5]
  refine AWP.weaken (Wk.pick [3, 4, 6, 7, 8] [8, 5003, 5004, 5005, 6, 4, 3] (by rfl) (by decide) (by simp)) ?_
  simp [-cB]
  refine AWP.seqK ?_
  rcases ho with ⟨_, hC⟩ | ⟨_, hC⟩ | ⟨_, x, hC⟩
  · have hC := hC (bs2 0)
    unfold DoOK muL at hC
    simp [-cB]
    rw [show wkG (V.rv 5005) (V.rv 5004) s F m = wkC s F { m with Frames := Fr ++ [{ f with At := k }] } from rfl]
    refine AOps.effD [5003, 5004, 5005] rfl (hC) (by simp) rfl (by simp) rfl (by kernel_rfl) (by first | rfl | simp) (by simp) (by simp) (by simp) (by simp) ?_
    simp [-cB]
    refine AWP.weaken (Wk.freeze 5004 (ty := 3) (k := 1) (ys := encI m'.Stack) (by rfl)) ?_
    simp [-cB, V.frz]
    refine AWP.weaken (Wk.freeze 5005 (ty := 100) (k := 4) (ys := m'.Frames.map GFrame.enc) (by rfl)) ?_
    refine AWP.ofK ?_
    simp [-cB, V.frz, wkG_M]
    refine ⟨by simp [labs], (stepDF_ok m m' (bs 1) (bs 2) (bs 0) none [_, _] _ (by simp) (by simp)).monoV ?_⟩
    rintro r L' ⟨rfl, rfl⟩
    simp [Back, labs, lfr, FPost, List.filter_cons, V.on]
  · have hC := hC (bs2 0)
    unfold DoOKD muD muL at hC
    simp [-cB]
    rw [show wkG (V.rv 5005) (V.rv 5004) s F m = wkC s F { m with Frames := Fr ++ [{ f with At := k }] } from rfl]
    refine AOps.effD [5003, 5004, 5005] rfl (hC) (by simp) rfl (by simp) rfl (by kernel_rfl) (by first | rfl | simp) (by simp) (by simp) (by simp) (by simp) ?_
    simp [-cB]
    refine AWP.weaken (Wk.freeze 5005 (ty := 100) (k := 4) (ys := m'.Frames.map GFrame.enc) (by rfl)) ?_
    refine AWP.ofK ?_
    simp [-cB, V.frz, wkG_M]
    refine ⟨by simp [labs], (stepDF_ok m m' (bs 1) (bs 2) (bs 0) none [_, _] _ (by simp) (by simp)).monoV ?_⟩
    rintro r L' ⟨rfl, rfl⟩
    simp [Back, labs, lfr, FPost, List.filter_cons, V.on]
  · obtain ⟨⟨m2, hC⟩, he⟩ := hC (bs2 0)
    rw [he]
    unfold muL at hC
    simp [-cB]
    rw [show wkG (V.rv 5005) (V.rv 5004) s F m = wkC s F { m with Frames := Fr ++ [{ f with At := k }] } from rfl]
    refine AOps.effPanK [5003, 5004, 5005] rfl (hC) (by simp) rfl (by simp) (by kernel_rfl) (by first | rfl | simp) (by simp) (by simp) (by simp) ?_
    simp
    refine ⟨by simp [labs], (stepDF_ok m GMachine.zero (bs 1) (bs 2) (bs 0) (some x) [_, _, _, _] _ (by simp) (by simp)).monoV ?_⟩
    rintro r L' ⟨rfl, rfl⟩
    simp [Back, labs, lfr, FPost, List.filter_cons, V.on]
end Go.Ab

namespace Go.Ab
open Go.Proofs
set_option maxHeartbeats 4000000
set_option maxRecDepth 20000
abbrev RkOK (wb : Nat) (s : GStory) (F : Int) (m : GMachine) (i : GIns) (m' : GMachine) : Prop := ACalls Tryz.prog 112 [.bp 5003 0, .agg (i.enc.map .d)] (muL wb s F m) (fun r L => r = .ret (.tup []) ∧ L = muL wb s F m')
theorem reckon1_ok (wb : Nat) (s : GStory) (F : Int) (m : GMachine) (i : GIns) (hop : i.Op = 1) (hl : m.Stack.length ≤ 1000000) : RkOK wb s F m i { m with Stack := m.Stack ++ [wrapM i.Arg] } := by
  have hp := push_ok wb s F m i.Arg hl
  unfold RkOK muL at *
  refine ACalls.runX [] [5003, 5004, 5005] Tryz.func112 rfl (by simp [Tryz.f112]) ?_; simp [-cB, Tryz.f112]
  intro bs bs2
  simp [-cB, hop]
  refine AOps.effD [] rfl (vcheck_ok) (by simp) rfl (by simp) rfl (by kernel_rfl) (by first | rfl | simp) (by simp) (by simp) (by simp) (by simp) ?_
  simp [-cB]
  refine AOps.effD [5003, 5004, 5005] rfl (hp) (by simp) rfl (by simp) rfl (by kernel_rfl) (by first | rfl | simp) (by simp) (by simp) (by simp) (by simp) ?_
  simp
@[simp] theorem faultV_on (ks : List Nat) (e : Int) : V.on ks (faultV e) = true := rfl
def NoGo (o : Int) : Prop := o ≠ 24 ∧ o ≠ 25 ∧ o ≠ 26 ∧ o ≠ 27 ∧ o ≠ 28 ∧ o ≠ 29 ∧ o ≠ 30 ∧ o ≠ 37 ∧ o ≠ 21 ∧ o ≠ 22 ∧ o ≠ 23 ∧ o ≠ 35 ∧ o ≠ 36
theorem doRk_ok (wb : Nat) (s : GStory) (F : Int) (m m' : GMachine) (i : GIns) (hop : NoGo i.Op) (h : RkOK wb s F m i m') : DoOK wb s F m i m' := by
  obtain ⟨h1, h2, h3, h4, h5, h6, h7, h8, h9, h10, h11, h12, h13⟩ := hop
  unfold RkOK muL at h
  unfold DoOK muL
  refine ACalls.runX [] [5003, 5004, 5005] Tryz.func55 rfl (by simp [Tryz.f55]) ?_; simp [-cB, Tryz.f55]
  intro bs
  simp [-cB, h1, h2, h3, h4, h5, h6, h7, h8, h9, h10, h11, h12, h13]
  refine AOps.effD [5003, 5004, 5005] rfl (h) (by simp) rfl (by simp) rfl (by kernel_rfl) (by first | rfl | simp) (by simp) (by simp) (by simp) (by simp) ?_
  simp
theorem doPush_ok (wb : Nat) (s : GStory) (F : Int) (m : GMachine) (i : GIns) (hop : i.Op = 1) (hl : m.Stack.length ≤ 1000000) : DoOK wb s F m i { m with Stack := m.Stack ++ [wrapM i.Arg] } :=
  doRk_ok wb s F m _ i (by simp [NoGo, hop]) (reckon1_ok wb s F m i hop hl)
end Go.Ab

namespace Go.Ab
open Go.ChangeShapes Go.WideShapes Go.ChangeAt Go.RowKit
section
variable {P : Program} {w : World} {base : Nat} {spare : Nat → Bool} {held : Bool}
theorem cells_of_laid {k : IntKind} {t e n fuel : Nat} {H : Type} {enc : TypeId × Value → H} {cs : List Value} {xs : List Int} {ps : List MemPlace} (ht : P.underlying t = some (.array n e)) (he : P.underlying e = some (.int k)) (ce : P.cellsOf e = 1)
    (h : DataW.trod enc P w base spare held fuel t cs = some (.agg (xs.map fun x => .lit (.int k x)), ps)) : ∀ (i : Nat) (x : Int), xs[i]? = some x → cs[i]? = some (.int k x) := by
  obtain ⟨ys, m, rfl, hx, hl, hn, hel⟩ := DataW.trod_array ht h
  intro i x hi
  simp only [Prod.mk.injEq, DataW.agg.injEq] at hx
  have hlen : ys.length = xs.length := by
    have := congrArg List.length hx.1
    simpa using this.symm
  have hin : i < n := by
    have := (List.getElem?_eq_some_iff.1 hi).1
    omega
  have h0 := hel i hin
  have hyi : ys[i]? = some ys[i] := List.getElem?_eq_getElem (by omega)
  rw [hyi] at h0
  obtain ⟨r, e1, e2, _⟩ := DataW.trod_int he h0
  have h3 := congrArg (fun l => l[i]?) hx.1
  simp only [List.getElem?_map, hi, hyi, Option.map_some, Option.some.injEq] at h3
  rw [e2] at h3
  simp only [DataW.lit.injEq, Lit.int.injEq, true_and] at h3
  subst h3
  rw [ce] at e1
  have h4 : ((cs.drop (i * 1)).take 1)[0]? = some (.int k x) := by rw [e1]; rfl
  rw [List.getElem?_take, if_pos (by omega), List.getElem?_drop] at h4
  simpa using h4
end
theorem OO_none (b : Nat) : ¬ OO (⟨fun _ => False, [], none, false⟩ : FO) noneM b := by rintro (h | h); exact noneM_own b h; exact h
theorem cell_lt {w : World} {g i : Nat} {v : Value} (h : w.cell? ⟨g, i, none⟩ = some v) : g < w.heap.size := by
  rcases Nat.lt_or_ge g w.heap.size with h1 | h1
  · exact h1
  · simp [World.cell?, Array.getElem?_eq_none h1] at h
theorem row_tied {H : Type} {enc : TypeId × Value → H} {C : Checked} {os : Os} {f : FuncId} {fn : Func} {s : OpenSpec} {F : Stop.Interp} {a : Assume} {conds : List PathCond} {fresh handsOn : Bool} {laid : List (String × DataW Unit)} (tb : TypeId)
    (hgl : ∀ W : World, laidMetH C.prog laid W → Globs W (OO (⟨fun _ => False, [], none, false⟩ : FO) noneM))
    (own : ownKnob C.prog.godebug = none) (started : os.Started) (noInit : C.prog.inits.idxOf? f = none) (hfn : C.prog.funcs[f]? = some fn)
    (witness : ∃ (w : World) (tape : Tape) (i : Input), w.os = os ∧ (w.forCall tape i).Shaped C.prog ∧ i.vars = [] ∧ Input.okWide C.prog (w.forCall tape i) .any w.heap.size f i ∧
      s.preRow enc C.prog fn conds false laid (w.forCall tape i).memory i.args ∧ a.holds C.prog (lone (Frame.enter C.prog f i.args .normal) [] (w.forCall tape i)))
    (hfine : fineB C.prog = true) (hlaid : laidOutB C.prog = true)
    (hps : fn.params.toList.all (fun t => C.prog.readableRec t && decide (t < C.prog.types.size)) = true)
    (hres : fn.resultTypes = #[tb]) (htb : C.prog.underlying tb = some .bool) (hv : s.vars = []) (hvb : s.bare.vars = []) (hva : (s.at F).vars = [])
    (hs : ∀ ds : List (DataW H), ds.length = fn.params.size → (s.at F).fn H ds = { results := [.lit (.bool true)], args := ds })
    (walk : ∀ yss : List (List D), yss.length = fn.params.size → (∀ (i : Nat) t ys, fn.params[i]? = some t → yss[i]? = some ys → HasT C.prog t ys) →
      (∀ N, (∀ ds : List (DataW H), (∀ k, s.cond = some k → k H ds = true) → bulkAll ds ≤ N) → bDss yss ≤ N) →
      ACalls C.prog f ((fn.params.toList.zip yss).map fun p => argV C.prog p.1 p.2) [] (fun r _ => r = .ret (.d (.v (.bool true))))) :
    ReturnsInHanded a C os f .any (s.preRow enc C.prog fn conds false laid) ((s.at F).post enc C.prog fn false fresh handsOn false) := by
  refine returnsInHanded_of_row own started noInit hfn witness ?_
  intro W base args ds gs before hval hW _ hkk hwt hlm _ _
  have hW' := hW
  obtain ⟨p, q, hA, hV, rfl, hfz, hnd⟩ := hW
  rw [hv] at hV
  obtain ⟨rfl, rfl⟩ := trodVars_none hV
  simp only [List.append_nil] at hwt hW' hkk ⊢
  rw [show s.bare.plain.varTypes C.prog = [] by simp [ChangeSpec.plain, DataSpec.varTypes, hvb], List.append_nil] at hwt
  have hps' : ∀ t ∈ fn.params.toList, C.prog.readableRec t = true ∧ t < C.prog.types.size := fun t h => by
    have := List.all_eq_true.1 hps t h
    simpa using this
  obtain ⟨yss, y1, y2, y3, y4, y6, y5⟩ := open_all (base := base) hfine fn.params.toList args.toList ds p (fun t h => (hps' t h).2) hA (fun n hn => by simpa using List.all_eq_true.1 hwt n hn) (fun j t v h1 h2 => hval j t v (by simpa using h1) (by simpa using h2))
  have hc := walk yss (by simpa using y1) (fun i t ys h1 h2 => y2 i t ys (by simpa using h1) h2) (fun N hN => Nat.le_trans y6 (hN _ hkk))
  refine (hc (⟨fun _ => False, [], none, false⟩ : FO) noneM W args ⟨by simp [keys], by simp [noneM], by simp [noneM], by simp [noneM], by simp, by simp, hgl W hlm⟩ ⟨by simp at y1 y3; simp [y1, y3], fun j x y hx hy => y5 j x y (by simpa using hx) hy⟩).mono fun e W' ⟨m', r, L', hr, he, hi, hst⟩ => ?_
  subst hr
  cases e with
  | returned v =>
    simp only [Ends] at he
    have hb := he.bool_inv
    subst hb
    have bel : Below W.heap.size W W' := ⟨hst.os, hst.tape, hst.output, hst.size, fun k hk => hst.block k hk (noneM_own k)⟩
    have hlt : ∀ x ∈ p, x.block < W.heap.size := fun x hx => hW'.lt x (by simpa using hx)
    refine ⟨_, rfl, ds, [], p ++ [], [], p, [], by rw [hva]; rw [hv] at hW'; simpa using hW', ?_, ?_, by simp [hva, DataW.TrodVars, List.append_nil, hs ds (by simpa using y4)], bel.frame _, fun h => by cases h⟩
    · rw [List.append_nil, hs ds (by simpa using y4), hres]
      exact trodAll_mk1 (shut_bool htb _)
    · rw [List.append_nil, hs ds (by simpa using y4)]
      exact trod_all_stays hlaid bel _ _ _ _ hps' hA hlt
  | panicked c => simp only [Ends] at he
  | _ => simp only [Ends] at he
theorem witness_tied {H : Type} {enc : TypeId × Value → H} {C : Checked} {os : Os} {f : FuncId} {fn : Func} {s : OpenSpec} {k : (H : Type) → List (DataW H) → Bool} (hk : s.cond = some k) {conds : List PathCond} {apart : Bool} {laid : List (String × DataW Unit)} (modest : Bool) (w0 : World) (args : Array Value) (fuel : Nat) (hos : w0.os = os)
    (hsh : (w0.forCall (fun _ _ => 0) ⟨#[], args, []⟩).Shaped C.prog)
    (hok : Input.okWideB C.prog (w0.forCall (fun _ _ => 0) ⟨#[], args, []⟩) f ⟨#[], args, []⟩ = true)
    {x : List (DataW H) × List (DataW H) × List MemPlace} (hx : DataW.whole enc C.prog (w0.forCall (fun _ _ => 0) ⟨#[], args, []⟩).memory fn.params.toList s.vars apart args.toList fuel = some x)
    (hconds : conds.all (PathCond.test C.prog ⟨fn.params.toList, x.1, s.bare.plain.varTypes C.prog, x.2.1⟩) = true) (hkk : k H (x.1 ++ x.2.1) = true)
    (hsz : s.bare.sizedB enc C.prog fn apart (w0.forCall (fun _ _ => 0) ⟨#[], args, []⟩).memory args fuel = true)
    (hl : laidMetH C.prog laid (w0.forCall (fun _ _ => 0) ⟨#[], args, []⟩).memory) :
    ∃ (w : World) (tape : Tape) (i : Input), w.os = os ∧ (w.forCall tape i).Shaped C.prog ∧ i.vars = [] ∧ Input.okWide C.prog (w.forCall tape i) .any w.heap.size f i ∧
      s.preRow enc C.prog fn conds apart laid (w.forCall tape i).memory i.args ∧ ({ modest := modest } : Assume).holds C.prog (lone (Frame.enter C.prog f i.args .normal) [] (w.forCall tape i)) :=
  ⟨w0, fun _ _ => 0, ⟨#[], args, []⟩, hos, hsh, (Input.okWide_of_okWideB (base := 0) hok).1, (Input.okWide_of_okWideB hok).2,
    ⟨⟨(OpenSpec.pre_some hk conds apart _ _).2 ⟨x.1, x.2.1, x.2.2, DataW.Whole_of_whole hx, hconds, hkk⟩, hl⟩, sizedMet_of_sizedB hsz⟩, by
    simp only [Assume.holds]
    exact ⟨by simp, by simp, fun _ => Modest.zero, by simp, by simp⟩⟩
end Go.Ab

namespace Go.Ab
open Go.Proofs
set_option maxHeartbeats 4000000
set_option maxRecDepth 8000
theorem encY_get {b : List Int} {k : Nat} {y : Int} (h : b[k]? = some y) (hl : k < (encY b).length) : (encY b)[k]'hl = [.v (.int .u8 y)] := by
  have : (encY b)[k]? = some [.v (.int .u8 y)] := by unfold encY; rw [List.getElem?_map, h]; rfl
  rw [List.getElem?_eq_getElem hl] at this
  exact Option.some.inj this
abbrev decV (x : GIns × Int × Int) : V := .tup [.agg (x.1.enc.map .d), .d (.v (.int .i64 x.2.1)), .d (.v (.int .i64 x.2.2))]
end Go.Ab

namespace Go.Ab
open Go.Proofs
set_option maxHeartbeats 4000000
set_option maxRecDepth 8000
def ixM (n : Int) : List Int → Nat → Int
  | [], _ => -1
  | x :: l, i => if n = x then (i : Int) else ixM n l (i + 1)
theorem ixM_iff (n : Int) : ∀ (l : List Int) (i : Nat), decide (0 ≤ ixM n l i) = l.contains n
  | [], i => by simp [ixM]
  | x :: l, i => by
    rw [ixM, List.contains_cons]
    by_cases h : n = x
    · subst h; simp
    · rw [if_neg h, ixM_iff n l]; simp [h]
theorem indexI_ok (l : List Int) (n : Int) (hl : l.length ≤ 1000000) : Pure Tryz.prog 273 [.d (.sl (encI l)), intD n] (intD (ixM n l 0)) := by
  refine Pure.run Tryz.func273 rfl (by simp [Tryz.f273]) ?_; simp [-cB, Tryz.f273]
  refine AWP.loopS [0, 1, 7, 8] l.length (fun i => [(8, intD i)]) (fun _ => []) (fun i => ixM n (l.drop i) i = ixM n l 0) (by rfl) (by simp [encI]) ?_
  intro i hi hH
  rcases Nat.lt_or_eq_of_le hi with hlt | heq
  · have hx : l[i]? = some l[i] := List.getElem?_eq_getElem hlt
    have h64 : inR .i64 ((i : Int) + 1) := by rw [inR_i64]; omega
    rw [List.drop_eq_getElem_cons hlt, ixM] at hH
    by_cases hp : n = l[i]
    · rw [if_pos hp] at hH
      simp [hlt, ← hp]
      exact hH
    · rw [if_neg hp] at hH
      simp [hlt, hp, h64]
      exact hH
  · have : l.drop i = [] := by rw [heq]; simp
    rw [this] at hH
    simp [heq]
    exact hH
theorem containsI_ok (l : List Int) (n : Int) (hl : l.length ≤ 1000000) : Pure Tryz.prog 218 [.d (.sl (encI l)), intD n] (boolD (l.contains n)) := by
  have h := indexI_ok l n hl
  rw [← ixM_iff n l 0]
  refine Pure.run Tryz.func218 rfl (by simp [Tryz.f218]) ?_; simp [-cB, Tryz.f218]
  refine AOps.pureC rfl (h) rfl rfl (by simp) rfl ?_
  simp
theorem opOne_ok (l : List Int) (n : Int) (hl : l.length ≤ 1000000) : Pure Tryz.prog 150 [intD n, .d (.sl (encI l))] (boolD (l.contains n)) := by
  have h := containsI_ok l n hl
  refine Pure.run Tryz.func150 rfl (by simp [Tryz.f150]) ?_; simp [-cB, Tryz.f150]
  refine AOps.pureC rfl (h) rfl rfl (by simp) rfl ?_
  simp
theorem opHas_ok (n : Int) : Pure Tryz.prog 101 [intD n] (boolD (hasA n)) := by
  have h := opOne_ok [1, 3, 4, 5, 6, 7, 8, 12, 13, 14, 15, 16, 19, 21, 24, 25, 26, 32, 33, 38] n (by simp)
  unfold hasA
  refine Pure.run Tryz.func101 rfl (by simp [Tryz.f101]) ?_; simp [-cB, Tryz.f101]
  refine AOps.weaken (Wk.freeze 4 (ys := encI [1, 3, 4, 5, 6, 7, 8, 12, 13, 14, 15, 16, 19, 21, 24, 25, 26, 32, 33, 38]) rfl) ?_
  simp [-cB]
  refine AOps.pureC rfl (h) rfl rfl (by simp) rfl ?_
  simp
theorem opSize_ok (n : Int) : Pure Tryz.prog 102 [intD n] (intD (bytesM n)) := by
  unfold bytesM
  by_cases h0 : n = 0
  · subst h0
    refine Pure.run Tryz.func102 rfl (by simp [Tryz.f102]) ?_; simp [-cB, Tryz.f102]
  · by_cases h1 : -128 ≤ n ∧ n ≤ 127
    · refine Pure.run Tryz.func102 rfl (by simp [Tryz.f102]) ?_; simp [-cB, Tryz.f102]
      repeat' (first
        | (with_reducible refine And.intro ?_ ?_)
        | (refine condC_split (fun h => ?_) (fun h => ?_) <;> (try simp at h) <;> (try simp [-cB, *]))
        | (with_reducible intro _))
      all_goals (try omega)
    · refine Pure.run Tryz.func102 rfl (by simp [Tryz.f102]) ?_; simp [-cB, Tryz.f102]
      repeat' (first
        | (with_reducible refine And.intro ?_ ?_)
        | (refine condC_split (fun h => ?_) (fun h => ?_) <;> (try simp at h) <;> (try simp [-cB, *]))
        | (with_reducible intro _))
      all_goals (try omega)
theorem opKnown_ok (n : Int) : Pure Tryz.prog 100 [intD n] (boolD (decide (1 ≤ n) && decide (n ≤ 38))) := by
  refine Pure.run Tryz.func100 rfl (by simp [Tryz.f100]) ?_; simp [Tryz.f100]
theorem opAmong_ok (n a b : Int) : Pure Tryz.prog 99 [intD n, intD a, intD b] (boolD (decide (a ≤ n) && decide (n < b))) := by
  refine Pure.run Tryz.func99 rfl (by simp [Tryz.f99]) ?_; simp [Tryz.f99]
theorem or_shl (s z : Int) (hs : -128 ≤ s ∧ s ≤ 127) (hz : 0 ≤ z ∧ z ≤ 255) : IntKind.wrap .i64 (((IntKind.wrap .i64 (s * 2 ^ min 8 IntKind.i64.bits) % 2 ^ IntKind.i64.bits).toNat ||| (z % 2 ^ IntKind.i64.bits).toNat : Nat) : Int) = 256 * s + z := by
  have h0 : IntKind.wrap .i64 (s * 2 ^ min 8 IntKind.i64.bits) = 256 * s := by
    rw [show min 8 IntKind.i64.bits = 8 from rfl, show ((2 : Int) ^ 8) = 256 from rfl, Int.mul_comm]
    exact inR_wrap (by rw [inR_i64]; omega)
  have h1 : (256 * s % 2 ^ IntKind.i64.bits).toNat = 256 * ((s % 72057594037927936).toNat) := by
    rw [show IntKind.i64.bits = 64 from rfl]; omega
  have h2 : (z % 2 ^ IntKind.i64.bits).toNat = z.toNat := by rw [show IntKind.i64.bits = 64 from rfl]; omega
  rw [h0, h1, h2]
  have h3 : 256 * ((s % 72057594037927936).toNat) ||| z.toNat = 256 * ((s % 72057594037927936).toNat) + z.toNat := by
    have := Nat.two_pow_add_eq_or_of_lt (i := 8) (b := z.toNat) (by omega) ((s % 72057594037927936).toNat)
    exact this.symm
  rw [h3]
  have h4 : IntKind.wrap .i64 ((256 * ((s % 72057594037927936).toNat) + z.toNat : Nat) : Int) = IntKind.wrap .i64 (256 * s + z) := by
    have e : ((256 * ((s % 72057594037927936).toNat) + z.toNat : Nat) : Int) % 2 ^ IntKind.i64.bits = (256 * s + z) % 2 ^ IntKind.i64.bits := by
      rw [show IntKind.i64.bits = 64 from rfl]; omega
    unfold IntKind.wrap
    rw [e]
  rw [h4]
  exact inR_wrap (by rw [inR_i64]; omega)
theorem sgn_eq (y : Int) (h : 0 ≤ y ∧ y ≤ 255) : IntKind.wrap .i8 y = if 128 ≤ y then y - 256 else y := by
  simp [IntKind.wrap, IntKind.bits, IntKind.signed]
  split <;> split <;> omega
def sgnM (y : Int) : Int := if 128 ≤ y then y - 256 else y
def accM (l : List Int) : Nat → Int
  | 0 => 0
  | 1 => sgnM (l[0]?.getD 0)
  | _ => 256 * sgnM (l[0]?.getD 0) + l[1]?.getD 0
theorem sgnM_bd {y : Int} (h : 0 ≤ y ∧ y ≤ 255) : -128 ≤ sgnM y ∧ sgnM y ≤ 127 := by unfold sgnM; split <;> omega
theorem wrap_sgn (y z : Int) (h : 0 ≤ y ∧ y ≤ 255) (hz : 0 ≤ z ∧ z ≤ 255) : wrapM (256 * y + z) = 256 * sgnM y + z := by
  unfold wrapM sgnM
  simp [IntKind.wrap, IntKind.bits, IntKind.signed]
  split <;> split <;> omega
end Go.Ab

namespace Go.Ab
open Go.Proofs
set_option maxHeartbeats 4000000
set_option maxRecDepth 30000
theorem opDecode_ok (b : List Int) (i : Int) (hb : ∀ y ∈ b, 0 ≤ y ∧ y ≤ 255) (hl : b.length ≤ 100000000000000) : Pure Tryz.prog 52 [.d (.sl (encY b)), .d (.v (.int .i64 i))] (decV (decM b i)) := by
  have hA := opAmong_ok i 0 b.length
  by_cases h0 : i < 0 ∨ (b.length : Int) ≤ i
  · have hv : decM b i = (⟨0, 0⟩, 0, 2) := by unfold decM; rw [if_pos h0]
    rw [hv]
    have hf : (decide (0 ≤ i) && decide (i < (b.length : Int))) = false := by
      rw [Bool.and_eq_false_iff]; simp; omega
    rw [hf] at hA
    refine Pure.run Tryz.func52 rfl (by simp [Tryz.f52]) ?_; simp [-cB, Tryz.f52]
    intro bs
    refine AOps.pureC rfl (hA) rfl rfl (by simp) rfl ?_
    simp [-cB]
    rfl
  have hf : (decide (0 ≤ i) && decide (i < (b.length : Int))) = true := by simp; omega
  rw [hf] at hA
  obtain ⟨k, rfl⟩ : ∃ k : Nat, i = k := ⟨i.toNat, by omega⟩
  have hk : k < b.length := by omega
  have hx := List.getElem?_eq_getElem hk
  have hxb := hb _ (List.getElem_mem hk)
  have hg : getI b k = b[k] := by unfold getI; simp [hx]
  unfold decM
  rw [if_neg h0, hg]
  generalize b[k] = x at *
  have hq : x.tdiv 4 = x / 4 := Int.tdiv_eq_ediv_of_nonneg hxb.1
  have hr : x.tmod 4 = x % 4 := Int.tmod_eq_emod_of_nonneg hxb.1
  have hgo : ∀ R : GIns × Int × Int, R = (if x / 4 < 1 ∨ 38 ≤ x / 4 ∨ x % 4 = 3 ∨ (0 < x % 4 ∧ hasA (x / 4) = false) then (⟨0, 0⟩, 0, 16)
    else if (b.length : Int) - k - 1 < x % 4 then (⟨0, 0⟩, 0, 2)
    else if x % 4 ≠ (bytesM (argD b (k + 1) (x % 4)) : Int) ∧ x / 4 ≠ 24 ∧ x / 4 ≠ 25 then (⟨0, 0⟩, 0, 4)
    else (⟨x / 4, argD b (k + 1) (x % 4)⟩, k + 1 + x % 4, 0)) → Pure Tryz.prog 52 [.d (.sl (encY b)), .d (.v (.int .i64 k))] (decV R) := by
    intro R hR
    have hh := opHas_ok (x / 4)
    have hK := opKnown_ok (x / 4)
    have hx3 := encY_get hx (by simpa using hk)
    have hx4 : inR .i64 (x / 4) := by rw [inR_i64]; omega
    have hx5 : inR .i64 x := by rw [inR_i64]; omega
    have hwx : IntKind.wrap .i64 x = x := inR_wrap hx5
    have hw4 : IntKind.wrap .i64 (x / 4) = x / 4 := inR_wrap hx4
    have hk2 : inR .i64 ((k : Int) + 1 + 1) := by rw [inR_i64]; omega
    have hk3 : inR .i64 ((k : Int) + 2) := by rw [inR_i64]; omega
    have hk4 : inR .i64 ((k : Int) + 1 + 2) := by rw [inR_i64]; omega
    have hln1 : inR .i64 ((b.length : Int) - k) := by rw [inR_i64]; omega
    have hln2 : inR .i64 ((b.length : Int) - k - 1) := by rw [inR_i64]; omega
    have hk1 : inR .i64 ((k : Int) + 1) := by rw [inR_i64]; omega
    refine Pure.run Tryz.func52 rfl (by simp [Tryz.f52]) ?_; simp [-cB, Tryz.f52]
    intro bs
    refine AOps.pureC rfl (hA) rfl rfl (by simp) rfl ?_
    simp [-cB]
    refine AWP.regionD [] Tryz.mixed (by kernel_rfl) (by rfl) ?_
    generalize hQ : x / 4 = q at *
    generalize hRm : x % 4 = r at *
    simp [-cB, hk, hq, hr, hx3, hx5, hwx, hw4]
    by_cases h1 : q < 1 ∨ 38 < q
    · have hKf : (decide (1 ≤ q) && decide (q ≤ 38)) = false := by
        rw [Bool.and_eq_false_iff]; simp; omega
      rw [hKf] at hK
      have e : R = (⟨0, 0⟩, 0, 16) := by rw [hR, if_pos (by omega)]
      rw [e]
      refine AOps.pureC rfl (hK) rfl rfl (by simp) rfl ?_
      simp [-cB]
      refine AOps.pureG rfl (g := false) (x := boolD true) (fun h => by cases h) rfl (by first | rfl | (simp; rfl)) (by simp) (by simp) rfl ?_
      simp [-cB]
      rfl
    have hKt : (decide (1 ≤ q) && decide (q ≤ 38)) = true := by simp; omega
    rw [hKt] at hK
    refine AOps.pureC rfl (hK) rfl rfl (by simp) rfl ?_
    by_cases h2 : q = 38
    · have e : R = (⟨0, 0⟩, 0, 16) := by rw [hR, if_pos (by omega)]
      rw [e]
      simp [-cB, h2]
      refine AOps.pureG rfl (g := false) (x := boolD true) (fun h => by cases h) rfl (by first | rfl | (simp; rfl)) (by simp) (by simp) rfl ?_
      simp [-cB]
      rfl
    by_cases h3 : r = 3
    · have e : R = (⟨0, 0⟩, 0, 16) := by rw [hR, if_pos (by omega)]
      rw [e]
      simp [-cB, h2, h3]
      refine AOps.pureG rfl (g := false) (x := boolD true) (fun h => by cases h) rfl (by first | rfl | (simp; rfl)) (by simp) (by simp) rfl ?_
      simp [-cB]
      rfl
    have h1' : ¬ q < 1 := by omega
    have h2' : ¬ 38 ≤ q := by omega
    have hrr : 0 ≤ r ∧ r ≤ 2 := by omega
    by_cases h4 : 0 < r
    · by_cases h5 : hasA q = false
      · have e : R = (⟨0, 0⟩, 0, 16) := by rw [hR, if_pos (.inr (.inr (.inr ⟨h4, h5⟩)))]
        rw [h5] at hh
        rw [e]
        simp [-cB, h2, h3, h4]
        refine AOps.pureG rfl (fun _ => hh) rfl (by first | rfl | (simp; rfl)) (by simp) (by simp) rfl ?_
        simp [-cB]
        rfl
      rw [Bool.not_eq_false] at h5
      rw [h5] at hh
      have hc4 : ¬ (q < 1 ∨ 38 ≤ q ∨ r = 3 ∨ (0 < r ∧ hasA q = false)) := by simp [h1', h2', h3, h5]
      rw [if_neg hc4] at hR
      simp [-cB, h2, h3, h4]
      refine AOps.pureG rfl (fun _ => hh) rfl (by first | rfl | (simp; rfl)) (by simp) (by simp) rfl ?_
      by_cases h6 : (b.length : Int) - k - 1 < r
      · have e : R = (⟨0, 0⟩, 0, 2) := by rw [hR, if_pos h6]
        rw [e]
        simp [-cB, hln1, hln2, h6]
        rfl
      rw [if_neg h6] at hR
      simp [-cB, hln1, hln2, h6]
      obtain ⟨ρ, rfl⟩ : ∃ ρ : Nat, r = ρ := ⟨r.toNat, by omega⟩
      have hkr : k + 1 + ρ ≤ b.length := by omega
      have htn : ((k : Int) + 1 + ρ).toNat = k + 1 + ρ := by omega
      have hdl : ((b.take (k + 1 + ρ)).drop (k + 1)).length = ρ := by simp; omega
      have hdg : ∀ j, j < ρ → ((b.take (k + 1 + ρ)).drop (k + 1))[j]? = b[k + 1 + j]? := by
        intro j hj
        rw [List.getElem?_drop, List.getElem?_take, if_pos (by omega)]
      have hde : List.drop (k + 1) (List.take (k + 1 + ρ) (encY b)) = encY ((b.take (k + 1 + ρ)).drop (k + 1)) := by simp [encY, List.map_drop, List.map_take]
      have hmn : min (k + 1 + ρ) b.length - (k + 1) = ρ := by omega
      have hdb : ∀ y ∈ (b.take (k + 1 + ρ)).drop (k + 1), 0 ≤ y ∧ y ≤ 255 := fun y hy => hb y (List.mem_of_mem_take (List.mem_of_mem_drop hy))
      have hag : argD b ((k : Int) + 1) ρ = accM ((b.take (k + 1 + ρ)).drop (k + 1)) ρ := by
        have hr3 : ρ = 0 ∨ ρ = 1 ∨ ρ = 2 := by omega
        rcases hr3 with rfl | rfl | rfl
        · simp [argD, accM]
        · obtain ⟨y, hy⟩ : ∃ y, b[k + 1]? = some y := ⟨_, List.getElem?_eq_getElem (by omega)⟩
          have e1 : getI b ((k : Int) + 1) = y := by unfold getI; rw [show ((k : Int) + 1).toNat = k + 1 by omega, hy]; rfl
          have e2 := hdg 0 (by omega)
          rw [Nat.add_zero, hy] at e2
          simp only [argD, accM, e1, e2, sgnM]
          rfl
        · obtain ⟨y, hy⟩ : ∃ y, b[k + 1]? = some y := ⟨_, List.getElem?_eq_getElem (by omega)⟩
          obtain ⟨z, hz⟩ : ∃ z, b[k + 2]? = some z := ⟨_, List.getElem?_eq_getElem (by omega)⟩
          have e1 : getI b ((k : Int) + 1) = y := by unfold getI; rw [show ((k : Int) + 1).toNat = k + 1 by omega, hy]; rfl
          have e3 : getI b ((k : Int) + 1 + 1) = z := by unfold getI; rw [show ((k : Int) + 1 + 1).toNat = k + 2 by omega, hz]; rfl
          have e2 := hdg 0 (by omega)
          rw [Nat.add_zero, hy] at e2
          have e4 := hdg 1 (by omega)
          rw [hz] at e4
          have := wrap_sgn y z (hb y (List.mem_of_getElem? hy)) (hb z (List.mem_of_getElem? hz))
          simp only [argD, accM, e1, e2, e3, e4]
          rw [if_neg (by omega), if_pos (by omega), this]
          rfl
      rw [hag] at hR
      refine ⟨hk1, by rw [inR_i64]; omega, ⟨⟨⟨by omega, by omega⟩, by omega, by omega⟩, encY_one b⟩, ?_⟩
      rw [htn, hde, hmn]
      generalize (b.take (k + 1 + ρ)).drop (k + 1) = ds at *
      refine AWP.loopS [1, 4, 7, 8, 9, 68, 69, 70] ρ (fun i => [(9, intD (accM ds i)), (70, intD i)]) (fun _ => []) (fun _ => True) (by rfl) (by simp [accM]) ?_
      intro j hj _
      rcases Nat.lt_or_eq_of_le hj with hlt | heq
      · have hjd : j < ds.length := by omega
        have hx' : ds[j]? = some ds[j] := List.getElem?_eq_getElem hjd
        have hyb := hdb _ (List.getElem_mem hjd)
        have hye := encY_get hx' (by simpa using hjd)
        generalize ds[j] = y at *
        have hyw : IntKind.wrap .i64 y = y := inR_wrap (by rw [inR_i64]; omega)
        have hs8 := sgn_eq y hyb
        have hsb := sgnM_bd hyb
        have hsw : IntKind.wrap .i64 (sgnM y) = sgnM y := inR_wrap (by rw [inR_i64]; omega)
        rw [show (if 128 ≤ y then y - 256 else y) = sgnM y from rfl] at hs8
        have hj2 : j = 0 ∨ j = 1 := by omega
        have hjd64 : inR .i64 ((j : Int) + 1) := by rw [inR_i64]; omega
        rcases hj2 with rfl | rfl
        · have hacc : accM ds (0 + 1) = sgnM y := by simp [accM, hx']
          have hacc' : accM ds 1 = sgnM y := hacc
          simp [-cB, hlt, hjd, hye, hs8, hsw]
          exact ⟨by rw [inR_i64]; omega, hacc'.symm⟩
        · have hx0 : ∃ y0, ds[0]? = some y0 := ⟨_, List.getElem?_eq_getElem (by omega)⟩
          obtain ⟨y0, hx0⟩ := hx0
          have hy0b := hdb y0 (List.mem_of_getElem? hx0)
          have hacc1 : accM ds 1 = sgnM y0 := by simp [accM, hx0]
          have hacc2 : accM ds 2 = 256 * sgnM y0 + y := by simp [accM, hx0, hx']
          have hos := or_shl (sgnM y0) y (sgnM_bd hy0b) hyb
          have hs0 := sgnM_bd hy0b
          generalize sgnM y0 = s0 at *
          have hlt1 : (1 : Int) < ρ := by omega
          simp [-cB, hlt, hlt1, hjd, hye, hyw, hacc1]
          exact ⟨by rw [inR_i64]; omega, hos.trans hacc2.symm⟩
      · subst heq
        have hbN := opSize_ok (accM ds j)
        generalize accM ds j = n at *
        have hR2 : R = if ((((bytesM n : Int) != (j : Int)) && (q != 24)) && (q != 25)) = true then (⟨0, 0⟩, 0, 4) else ((⟨q, n⟩ : GIns), ((k : Int) + 1 + j, (0 : Int))) := by
          rw [hR]
          by_cases c : ((j : Int) ≠ (bytesM n : Int) ∧ q ≠ 24 ∧ q ≠ 25)
          · rw [if_pos c, if_pos (by simp [c.2.1, c.2.2]; have := c.1; omega)]
          · rw [if_neg c, if_neg (by intro h; simp at h; exact c ⟨by have := h.1.1; omega, h.1.2, h.2⟩)]
        have hkj : inR .i64 ((k : Int) + 1 + j) := by rw [inR_i64]; omega
        clear hR
        generalize bytesM n = β at *
        generalize hJ : (j : Int) = J at *
        generalize hBe : (β : Int) = B at *
        simp [-cB]
        refine AOps.pureC rfl (hbN) rfl rfl (by simp) rfl ?_
        cases hc1 : (B != J) <;> cases hc2 : (q != 24) <;> cases hc3 : (q != 25)
        all_goals rw [hc1, hc2, hc3] at hR2
        all_goals simp [-cB, hc1, hc2, hc3, hk1, hkj]
        all_goals (rw [hR2]; first | rfl | exact ⟨rfl, rfl, rfl⟩)
    · have hr0 : r = 0 := by omega
      have hc4 : ¬ (q < 1 ∨ 38 ≤ q ∨ r = 3 ∨ (0 < r ∧ hasA q = false)) := by simp [h1', h2', h3, h4]
      rw [if_neg hc4] at hR
      have h6 : ¬ (b.length : Int) - k - 1 < r := by omega
      rw [if_neg h6] at hR
      simp [-cB, h2, h3, h4]
      refine AOps.pureG rfl (g := false) (x := boolD true) (fun h => by cases h) rfl (by first | rfl | (simp; rfl)) (by simp) (by simp) rfl ?_
      simp [-cB, hln1, hln2, h6]
      obtain ⟨ρ, rfl⟩ : ∃ ρ : Nat, r = ρ := ⟨r.toNat, by omega⟩
      have hkr : k + 1 + ρ ≤ b.length := by omega
      have htn : ((k : Int) + 1 + ρ).toNat = k + 1 + ρ := by omega
      have hdl : ((b.take (k + 1 + ρ)).drop (k + 1)).length = ρ := by simp; omega
      have hdg : ∀ j, j < ρ → ((b.take (k + 1 + ρ)).drop (k + 1))[j]? = b[k + 1 + j]? := by
        intro j hj
        rw [List.getElem?_drop, List.getElem?_take, if_pos (by omega)]
      have hde : List.drop (k + 1) (List.take (k + 1 + ρ) (encY b)) = encY ((b.take (k + 1 + ρ)).drop (k + 1)) := by simp [encY, List.map_drop, List.map_take]
      have hmn : min (k + 1 + ρ) b.length - (k + 1) = ρ := by omega
      have hdb : ∀ y ∈ (b.take (k + 1 + ρ)).drop (k + 1), 0 ≤ y ∧ y ≤ 255 := fun y hy => hb y (List.mem_of_mem_take (List.mem_of_mem_drop hy))
      have hag : argD b ((k : Int) + 1) ρ = accM ((b.take (k + 1 + ρ)).drop (k + 1)) ρ := by
        have hr3 : ρ = 0 ∨ ρ = 1 ∨ ρ = 2 := by omega
        rcases hr3 with rfl | rfl | rfl
        · simp [argD, accM]
        · obtain ⟨y, hy⟩ : ∃ y, b[k + 1]? = some y := ⟨_, List.getElem?_eq_getElem (by omega)⟩
          have e1 : getI b ((k : Int) + 1) = y := by unfold getI; rw [show ((k : Int) + 1).toNat = k + 1 by omega, hy]; rfl
          have e2 := hdg 0 (by omega)
          rw [Nat.add_zero, hy] at e2
          simp only [argD, accM, e1, e2, sgnM]
          rfl
        · obtain ⟨y, hy⟩ : ∃ y, b[k + 1]? = some y := ⟨_, List.getElem?_eq_getElem (by omega)⟩
          obtain ⟨z, hz⟩ : ∃ z, b[k + 2]? = some z := ⟨_, List.getElem?_eq_getElem (by omega)⟩
          have e1 : getI b ((k : Int) + 1) = y := by unfold getI; rw [show ((k : Int) + 1).toNat = k + 1 by omega, hy]; rfl
          have e3 : getI b ((k : Int) + 1 + 1) = z := by unfold getI; rw [show ((k : Int) + 1 + 1).toNat = k + 2 by omega, hz]; rfl
          have e2 := hdg 0 (by omega)
          rw [Nat.add_zero, hy] at e2
          have e4 := hdg 1 (by omega)
          rw [hz] at e4
          have := wrap_sgn y z (hb y (List.mem_of_getElem? hy)) (hb z (List.mem_of_getElem? hz))
          simp only [argD, accM, e1, e2, e3, e4]
          rw [if_neg (by omega), if_pos (by omega), this]
          rfl
      rw [hag] at hR
      refine ⟨hk1, by rw [inR_i64]; omega, ⟨⟨⟨by omega, by omega⟩, by omega, by omega⟩, encY_one b⟩, ?_⟩
      rw [htn, hde, hmn]
      generalize (b.take (k + 1 + ρ)).drop (k + 1) = ds at *
      refine AWP.loopS [1, 4, 7, 8, 9, 68, 69, 70] ρ (fun i => [(9, intD (accM ds i)), (70, intD i)]) (fun _ => []) (fun _ => True) (by rfl) (by simp [accM]) ?_
      intro j hj _
      rcases Nat.lt_or_eq_of_le hj with hlt | heq
      · have hjd : j < ds.length := by omega
        have hx' : ds[j]? = some ds[j] := List.getElem?_eq_getElem hjd
        have hyb := hdb _ (List.getElem_mem hjd)
        have hye := encY_get hx' (by simpa using hjd)
        generalize ds[j] = y at *
        have hyw : IntKind.wrap .i64 y = y := inR_wrap (by rw [inR_i64]; omega)
        have hs8 := sgn_eq y hyb
        have hsb := sgnM_bd hyb
        have hsw : IntKind.wrap .i64 (sgnM y) = sgnM y := inR_wrap (by rw [inR_i64]; omega)
        rw [show (if 128 ≤ y then y - 256 else y) = sgnM y from rfl] at hs8
        have hj2 : j = 0 ∨ j = 1 := by omega
        have hjd64 : inR .i64 ((j : Int) + 1) := by rw [inR_i64]; omega
        rcases hj2 with rfl | rfl
        · have hacc : accM ds (0 + 1) = sgnM y := by simp [accM, hx']
          have hacc' : accM ds 1 = sgnM y := hacc
          simp [-cB, hlt, hjd, hye, hs8, hsw]
          exact ⟨by rw [inR_i64]; omega, hacc'.symm⟩
        · have hx0 : ∃ y0, ds[0]? = some y0 := ⟨_, List.getElem?_eq_getElem (by omega)⟩
          obtain ⟨y0, hx0⟩ := hx0
          have hy0b := hdb y0 (List.mem_of_getElem? hx0)
          have hacc1 : accM ds 1 = sgnM y0 := by simp [accM, hx0]
          have hacc2 : accM ds 2 = 256 * sgnM y0 + y := by simp [accM, hx0, hx']
          have hos := or_shl (sgnM y0) y (sgnM_bd hy0b) hyb
          have hs0 := sgnM_bd hy0b
          generalize sgnM y0 = s0 at *
          have hlt1 : (1 : Int) < ρ := by omega
          simp [-cB, hlt, hlt1, hjd, hye, hyw, hacc1]
          exact ⟨by rw [inR_i64]; omega, hos.trans hacc2.symm⟩
      · subst heq
        have hbN := opSize_ok (accM ds j)
        generalize accM ds j = n at *
        have hR2 : R = if ((((bytesM n : Int) != (j : Int)) && (q != 24)) && (q != 25)) = true then (⟨0, 0⟩, 0, 4) else ((⟨q, n⟩ : GIns), ((k : Int) + 1 + j, (0 : Int))) := by
          rw [hR]
          by_cases c : ((j : Int) ≠ (bytesM n : Int) ∧ q ≠ 24 ∧ q ≠ 25)
          · rw [if_pos c, if_pos (by simp [c.2.1, c.2.2]; have := c.1; omega)]
          · rw [if_neg c, if_neg (by intro h; simp at h; exact c ⟨by have := h.1.1; omega, h.1.2, h.2⟩)]
        have hkj : inR .i64 ((k : Int) + 1 + j) := by rw [inR_i64]; omega
        clear hR
        generalize bytesM n = β at *
        generalize hJ : (j : Int) = J at *
        generalize hBe : (β : Int) = B at *
        simp [-cB]
        refine AOps.pureC rfl (hbN) rfl rfl (by simp) rfl ?_
        cases hc1 : (B != J) <;> cases hc2 : (q != 24) <;> cases hc3 : (q != 25)
        all_goals rw [hc1, hc2, hc3] at hR2
        all_goals simp [-cB, hc1, hc2, hc3, hk1, hkj]
        all_goals (rw [hR2]; first | rfl | exact ⟨rfl, rfl, rfl⟩)
  exact hgo _ rfl
end Go.Ab

namespace Go.Ab
open Go.Proofs
def u64 (n : Int) : Int := IntKind.wrap .u64 n
def seedM (n : Int) : Int := if u64 (u64 (u64 n * 2654435769) + 1) = 0 then 1 else u64 (u64 (u64 n * 2654435769) + 1)
theorem refSeed_ok (n : Int) : Pure Tryz.prog 82 [.d (.v (.int .i64 n))] (.d (.v (.int .u64 (seedM n)))) := by
  unfold seedM u64
  refine Pure.run Tryz.func82 rfl (by simp [Tryz.f82]) ?_; simp [-cB, Tryz.f82]
  refine condC_split (fun h => ?_) (fun h => ?_)
  · simp at h
    simp [h]
  · simp at h
    simp [h]
def afterM (inn : Int) : List GThing → Int → Int
  | [], _ => 0
  | y :: l, i => if y.Parent = inn then i else afterM inn l (i + 1)
theorem afterM_skip {inn : Int} : ∀ (l r : List GThing) (i : Int), (∀ y ∈ l, y.Parent ≠ inn) → afterM inn (l ++ r) i = afterM inn r (i + l.length)
  | [], r, i, _ => by simp
  | y :: l, r, i, h => by
    rw [List.cons_append, afterM, if_neg (h y (by simp)), afterM_skip l r _ (fun z hz => h z (by simp [hz]))]
    congr 1
    simp only [List.length_cons]; omega
theorem refAfter_ok (t : GTables) (ht : t.wf) (x : Nat) (hx : x ≤ t.Things.length) (inn : Int) : Pure Tryz.prog 83 [.agg (t.enc.map .d), .d (.v (.int .i64 x)), .d (.v (.int .i64 inn))] (.d (.v (.int .i64 (afterM inn (t.Things.drop x) x)))) := by
  have hlen := GTables.wl_Things ht
  refine Pure.run Tryz.func83 rfl (by simp [Tryz.f83]) ?_; simp [-cB, Tryz.f83]
  intro bs
  refine AWP.loopS [2, 3, 7] (t.Things.length - x) (fun i => [(7, .d (.v (.int .i64 ((x + i : Nat) : Int))))]) (fun _ => []) (fun i => ∀ y ∈ (t.Things.drop x).take i, y.Parent ≠ inn) (by rfl) (by simp) ?_
  intro i hi hH
  rcases Nat.lt_or_eq_of_le hi with hlt | heq
  · have hxi : x + i < t.Things.length := by omega
    have hxz : (x : Int) + i < t.Things.length := by omega
    have hd : t.Things.drop x = (t.Things.drop x).take i ++ t.Things[x + i] :: t.Things.drop (x + i + 1) := by
      conv => lhs; rw [← List.take_append_drop i (t.Things.drop x)]
      rw [List.drop_drop, List.drop_eq_getElem_cons hxi]
    have hl : ((t.Things.drop x).take i).length = i := by simp; omega
    have hz : ((x : Int) + i).toNat = x + i := by omega
    have hz0 : 0 ≤ (x : Int) + i := by omega
    have hgd : t.Things[x + i]?.getD GThing.zero = t.Things[x + i] := by rw [List.getElem?_eq_getElem hxi]; rfl
    have hin : inR .i64 ((x : Int) + i + 1) := by rw [inR_i64]; omega
    by_cases hp : (t.Things[x + i]).Parent = inn
    · have hv : afterM inn (t.Things.drop x) x = (x : Int) + i := by
        rw [hd, afterM_skip _ _ _ hH, afterM, if_pos hp, hl]
      simp [hxi, hxz, hp, hv, hz, hz0]
    · have hH' : ∀ y ∈ (t.Things.drop x).take (i + 1), y.Parent ≠ inn := by
        intro y hy
        rw [List.take_add_one] at hy
        rcases List.mem_append.1 hy with h | h
        · exact hH y h
        · rw [List.getElem?_drop, List.getElem?_eq_getElem hxi] at h
          simp at h
          rw [h]; exact hp
      simp [hxi, hxz, hp, hin, hz, hz0, hlt]
      exact ⟨by omega, fun y hy => hH' y hy⟩
  · have hxz : ¬ ((x : Int) + i < t.Things.length) := by omega
    have hv : afterM inn (t.Things.drop x) x = 0 := by
      have h1 : (t.Things.drop x).take i = t.Things.drop x := List.take_of_length_le (by simp; omega)
      rw [h1] at hH
      have := afterM_skip (inn := inn) (t.Things.drop x) [] x hH
      rw [List.append_nil] at this
      rw [this, afterM]
    simp [hxz, hv]
def childN (t : GTables) (k : Nat) : Int := if k = 0 then 0 else afterM k (t.Things.drop 1) 1
def nextN (t : GTables) (k : Nat) : Int := if (thingAt t k).Parent = 0 then 0 else afterM (thingAt t k).Parent (t.Things.drop (k + 1)) (k + 1)
def newM (t : GTables) : GWorld := ⟨t.Globals, t.Things.map (·.Parent), (List.range t.Things.length).map (childN t), (List.range t.Things.length).map (nextN t), t.Things.map (·.Flags), t.Things.flatMap (·.Props), List.replicate t.Daemons.length 0, seedM t.Release, 0, 0, 0, 0, 0⟩
theorem sum_le64 : ∀ (l : List GThing), (∀ y ∈ l, y.Props.length ≤ 64) → (List.map (fun a => a.Props.length) l).sum ≤ l.length * 64
  | [], _ => by simp
  | y :: l, h => by
    have h1 := sum_le64 l (fun z hz => h z (by simp [hz]))
    have h2 := h y (by simp)
    simp only [List.map_cons, List.sum_cons, List.length_cons]; omega
set_option maxHeartbeats 8000000 in
theorem refNew_ok (t : GTables) (ht : t.wf) (hT : t.Things.length ≤ 1000) (hP : ∀ y ∈ t.Things, y.Props.length ≤ 64) : Pure Tryz.prog 36 [.agg (t.enc.map .d)] (.agg ((newM t).enc.map .d)) := by
  have l1 := GTables.wl_Globals ht
  have l2 := GTables.wl_Daemons ht
  have l3 := GTables.wl_Things ht
  refine Pure.run Tryz.func36 rfl (by simp [Tryz.f36]) ?_; simp [-cB, Tryz.f36]
  intro bs
  refine AWP.regionT [some (0, 1), some (0, 1), some (0, 1), some (0, 1), some (0, 1), some (0, 1), some (0, 1), some (0, 1), some (0, 1), some (0, 1), some (0, 1), some (0, 1), none, none] [8, 11, 15] [.kn (fun v => ∃ ao, v = .slice ao 0 0), .d (.sl (encI t.Globals)), .d (.sl (encI (List.replicate t.Daemons.length 0))), .d (.v (.int .u64 (seedM t.Release)))] Tryz.mixed (by kernel_rfl) ?_
  simp [(refSeed_ok _).ok]
  have tS : tySl Tryz.prog 23 = some (3, 1, 8, [.int .i64 0]) := by kernel_rfl
  have tR : tySrc Tryz.prog 23 = true := by kernel_rfl
  have y0 : ∀ (ops : Array Oper) (s : St) (dst : Option Tmp) (pos : String) (after : Array Edge), YOp Tryz.prog ops ⟨dst, .buildSlice 23 0 #[], 23, pos, after, none⟩ s (.kn (fun v => ∃ ao, v = .slice ao 0 0)) := fun ops s dst pos after => yop_build0 tS
  refine ⟨y0 _ _ _ _ _, ?_⟩
  refine ⟨yop_append0 tS tR rfl rfl (by decide) (by simp [encI]) (by simp; omega), ?_⟩
  have y2 : ∀ (ops : Array Oper) (s : St) (dst : Option Tmp) (lo co : Operand) (pos : String) (after : Array Edge), s.ev lo = .d (.v (.int .i64 t.Daemons.length)) → s.ev co = .d (.v (.int .i64 t.Daemons.length)) →
      YOp Tryz.prog ops ⟨dst, .makeSlice 23 lo co, 23, pos, after, none⟩ s (.d (.sl (encI (List.replicate t.Daemons.length 0)))) := by
    intro ops s dst lo co pos after h1 h2
    have := yop_make (P := Tryz.prog) (ops := ops) (dst := dst) (ty := 23) (pos := pos) (after := after) (s := s) tS h1 h2 (by decide) (by omega) (by simp only [maxLen]; omega)
    simpa [encI] using this
  refine ⟨y2 _ _ _ _ _ _ _ rfl rfl, ?_⟩
  repeat' (first | exact y0 _ _ _ _ _ | exact y2 _ _ _ _ _ _ _ rfl rfl | exact yop_append0 tS tR rfl rfl (by decide) (by simp [encI]) (by simp; omega) | with_reducible refine And.intro ?_ ?_)
  intro bs1
  refine AWP.weaken (s' := ⟨[(4, .d (.v (.int .i64 0))), (3, .bp 3 0), (2, .bp 2 0), (1, .bp 1 0)], _⟩) (Wk.pick [4, 3, 2, 1] [3, 2, 1] (by rfl) (by decide) (by simp [St.pick, St.on, V.on, V.ons])) ?_
  refine AWP.weaken (Wk.ownBox 3 1 5301 (e := 3) (k := 1) rfl rfl (by simp [keys])) ?_
  refine AWP.weaken (Wk.ownBox 3 2 5302 (e := 3) (k := 1) rfl rfl (by simp [keys, Heap.upd])) ?_
  refine AWP.weaken (Wk.ownBox 3 3 5303 (e := 3) (k := 1) rfl rfl (by simp [keys, Heap.upd])) ?_
  refine AWP.weaken (Wk.ownBox 3 4 5304 (e := 3) (k := 1) rfl rfl (by simp [keys, Heap.upd])) ?_
  refine AWP.weaken (Wk.ownBox 3 5 5305 (e := 3) (k := 1) rfl rfl (by simp [keys, Heap.upd])) ?_
  refine AWP.weaken (s' := ⟨[(4, .d (.v (.int .i64 0))), (3, .bp 3 0), (2, .bp 2 0), (1, .bp 1 0)],
    [(5301, .row 3 1 []), (5302, .row 3 1 []), (5303, .row 3 1 []), (5304, .row 3 1 []), (5305, .row 3 1 []),
     (3, .box (bs1 3 + 1) 31 [.d (.sl (encI t.Globals)), .rv 5301, .rv 5302, .rv 5303, .rv 5304, .rv 5305, .d (.sl (encI (List.replicate t.Daemons.length 0))), .d (.v (.int .u64 (seedM t.Release))), .d (.v (.int .i64 0)), .d (.v (.int .i64 0)), .d (.v (.int .i64 0)), .d (.v (.int .i64 0)), .d (.v (.int .i64 0))]), _, _]⟩) (Wk.pick [4, 3, 2, 1] [5301, 5302, 5303, 5304, 5305, 3, 2, 1] (by rfl) (by decide) (by simp [St.pick, St.on, V.on, V.ons, Heap.upd])) ?_
  refine AWP.loopL [1, 2, 3, 4] t.Things (fun pre => [(4, .d (.v (.int .i64 pre.length)))]) (fun pre => [(5301, .row 3 1 (dd (encI (pre.map (·.Parent))))), (5302, .row 3 1 (dd (encI ((List.range pre.length).map (childN t))))), (5303, .row 3 1 (dd (encI ((List.range pre.length).map (nextN t))))), (5304, .row 3 1 (dd (encI (pre.map (·.Flags))))), (5305, .row 3 1 (dd (encI (pre.flatMap (·.Props)))))]) (fun _ => True) (by rfl) (by omega) (by simp [encI]) ?_ ?_
  · rintro pre y post hsp hH hlt hge a4
    have hy : thingAt t pre.length = y := by rw [thingAt, hsp]; simp
    have hA := refAfter_ok t ht 1 (by omega) pre.length
    have hB := refAfter_ok t ht (pre.length + 1) (by omega) y.Parent
    have hps := sum_le64 pre (fun z hz => hP z (by rw [hsp]; simp [hz]))
    have hpy := hP y (by rw [hsp]; simp)
    have hpl : pre.length ≤ 1000 := by omega
    clear hsp
    have h64 : inR .i64 ((pre.length : Int) + 1) := a4
    have hc : childN t pre.length = if pre = [] then 0 else afterM pre.length t.Things.tail 1 := by
      unfold childN
      cases pre <;> simp
    have hn : nextN t pre.length = if y.Parent = 0 then 0 else afterM y.Parent (t.Things.drop (pre.length + 1)) (pre.length + 1) := by
      unfold nextN
      rw [hy]
    by_cases hp0 : pre = []
    · subst hp0
      simp only [List.length_nil, Int.natCast_zero, Int.zero_add, Nat.zero_add] at hge hlt hy h64 a4 hB hn
      have hc' : childN t 0 = 0 := rfl
      by_cases hy0 : y.Parent = 0
      · have hn' : nextN t 0 = 0 := by rw [hn, if_pos hy0]
        clear hc hn hA hB
        simp [-cB, hge, hlt]
        repeat' (first
          | (with_reducible refine And.intro ?_ ?_)
          | (refine condC_split (fun h => ?_) (fun h => ?_) <;> (try simp at h) <;> (try simp [-cB, *]))
          | (with_reducible intro _))
        all_goals (try omega)
        refine AWP.regionM0 [some (0, 1), some (0, 1), some (0, 0), some (0, 0), some (0, 0), some (0, 0), some (0, 0), some (0, 0), none, none, some (2, 2), none] [] Tryz.mixed (by kernel_rfl) ?_
        simp [-cB, *]
        refine AWP.regionM0 [some (0, 0), some (0, 0), some (0, 0), some (0, 0), some (0, 0), some (0, 0), some (0, 0), some (0, 0), none, some (1, 1), none] [] Tryz.mixed (by kernel_rfl) ?_
        simp [-cB, List.range_succ, *]
        simp [dd, encI]
        omega
      · have hn' : nextN t 0 = afterM y.Parent (t.Things.drop 1) 1 := by
          rw [hn, if_neg hy0]
        clear hc hn hA
        simp [-cB, hge, hlt]
        repeat' (first
          | (with_reducible refine And.intro ?_ ?_)
          | (refine condC_split (fun h => ?_) (fun h => ?_) <;> (try simp at h) <;> (try simp [-cB, *]))
          | (refine AOps.pureC rfl (hB) rfl rfl (by simp) rfl ?_ <;> (try simp [-cB, *]))
          | (refine AOps.lendC rfl (hB) rfl (by simp) rfl rfl (by simp) rfl ?_ <;> (try simp [-cB, *]))
          | (refine AOps.pureG rfl (fun h => hB) rfl (by first | rfl | (simp; rfl)) (by simp) (by simp) rfl ?_ <;> (try simp [-cB, *]))
          | (with_reducible intro _))
        all_goals (try omega)
        refine AWP.regionM0 [some (0, 1), some (0, 1), some (0, 0), some (0, 0), some (0, 0), some (0, 0), some (0, 0), some (0, 0), none, none, some (2, 2), none] [] Tryz.mixed (by kernel_rfl) ?_
        simp [-cB, *]
        refine AWP.regionM0 [some (0, 0), some (0, 0), some (0, 0), some (0, 0), some (0, 0), some (0, 0), some (0, 0), some (0, 0), none, some (1, 1), none] [] Tryz.mixed (by kernel_rfl) ?_
        simp [-cB, List.range_succ, *]
        simp [dd, encI]
        omega
    · have hpp : 0 < pre.length := List.length_pos_iff.2 hp0
      rw [if_neg hp0] at hc
      by_cases hy0 : y.Parent = 0
      · rw [if_pos hy0] at hn
        clear hB
        simp [-cB, hge, hlt, hpp]
        repeat' (first
          | (with_reducible refine And.intro ?_ ?_)
          | (refine condC_split (fun h => ?_) (fun h => ?_) <;> (try simp at h) <;> (try simp [-cB, *]))
          | (refine AOps.pureC rfl (hA) rfl rfl (by simp) rfl ?_ <;> (try simp [-cB, *]))
          | (refine AOps.lendC rfl (hA) rfl (by simp) rfl rfl (by simp) rfl ?_ <;> (try simp [-cB, *]))
          | (refine AOps.pureG rfl (fun h => hA) rfl (by first | rfl | (simp; rfl)) (by simp) (by simp) rfl ?_ <;> (try simp [-cB, *]))
          | (with_reducible intro _))
        all_goals (try omega)
        refine AWP.regionM0 [some (0, 1), some (0, 1), some (0, 0), some (0, 0), some (0, 0), some (0, 0), some (0, 0), some (0, 0), none, none, some (2, 2), none] [] Tryz.mixed (by kernel_rfl) ?_
        simp [-cB, *]
        refine ⟨by omega, ?_⟩
        refine AWP.regionM0 [some (0, 0), some (0, 0), some (0, 0), some (0, 0), some (0, 0), some (0, 0), some (0, 0), some (0, 0), none, some (1, 1), none] [] Tryz.mixed (by kernel_rfl) ?_
        simp [-cB, List.range_succ, *]
        try omega
      · rw [if_neg hy0] at hn
        simp [-cB, hge, hlt, hpp]
        repeat' (first
          | (with_reducible refine And.intro ?_ ?_)
          | (refine condC_split (fun h => ?_) (fun h => ?_) <;> (try simp at h) <;> (try simp [-cB, *]))
          | (refine AOps.pureC rfl (hA) rfl rfl (by simp) rfl ?_ <;> (try simp [-cB, *]))
          | (refine AOps.pureC rfl (hB) rfl rfl (by simp) rfl ?_ <;> (try simp [-cB, *]))
          | (refine AOps.lendC rfl (hA) rfl (by simp) rfl rfl (by simp) rfl ?_ <;> (try simp [-cB, *]))
          | (refine AOps.lendC rfl (hB) rfl (by simp) rfl rfl (by simp) rfl ?_ <;> (try simp [-cB, *]))
          | (refine AOps.pureG rfl (fun h => hA) rfl (by first | rfl | (simp; rfl)) (by simp) (by simp) rfl ?_ <;> (try simp [-cB, *]))
          | (refine AOps.pureG rfl (fun h => hB) rfl (by first | rfl | (simp; rfl)) (by simp) (by simp) rfl ?_ <;> (try simp [-cB, *]))
          | (with_reducible intro _))
        all_goals (try omega)
        refine AWP.regionM0 [some (0, 1), some (0, 1), some (0, 0), some (0, 0), some (0, 0), some (0, 0), some (0, 0), some (0, 0), none, none, some (2, 2), none] [] Tryz.mixed (by kernel_rfl) ?_
        simp [-cB, *]
        refine ⟨by omega, ?_⟩
        refine AWP.regionM0 [some (0, 0), some (0, 0), some (0, 0), some (0, 0), some (0, 0), some (0, 0), some (0, 0), some (0, 0), none, some (1, 1), none] [] Tryz.mixed (by kernel_rfl) ?_
        simp [-cB, List.range_succ, *]
        try omega
  · intro _
    simp [-cB, newM, GWorld.enc]
end Go.Ab

namespace Go.Ab
open Go.Proofs
set_option maxHeartbeats 4000000
set_option maxRecDepth 20000
def taleE : GExpr := .mk 1 0 5 ⟨#[]⟩ []
def taleS : GStmt := .mk 12 0 ⟨#[]⟩ [taleE] [] []
def taleT : GTables := { GTables.zero with Texts := [⟨#[84, 97, 108, 101]⟩], Flags := 4, Things := [{ GThing.zero with Text := -1 }, { GThing.zero with Text := -1, Parent := 2 }, { GThing.zero with Text := -1, Room := true }], Funcs := [0], Params := [0], Locals := [0] }
def taleB : GBook := ⟨taleT, [[taleS]]⟩
def tThing (p : Int) (r : Bool) : List D := [.v (.int .i64 0), .v (.int .i64 (-1)), .v (.int .i64 p), .v (.int .i64 0), .v (.bool r), .v (.slice none 0 0), .v (.slice none 0 0), .v (.slice none 0 0), .v (.slice none 0 0)]
def taleX : List D := [.v (.int .i64 1), .v (.int .i64 0), .v (.int .i64 5), .v (.string ⟨#[]⟩), .v (.slice none 0 0)]
def taleY : List D := [.v (.int .i64 12), .v (.int .i64 0), .v (.string ⟨#[]⟩), .sl [taleX], .v (.slice none 0 0), .v (.slice none 0 0)]
theorem tale_ok : Pure Tryz.prog 45 [] (.agg (taleB.enc.map .d)) := by
  refine Pure.runA Tryz.func45 rfl (by simp [Tryz.f45]) ?_
  simp only [Tryz.f45]
  refine AWP.seqK ?_
  simp [-cB]
  intro bs
  refine AWP.seqK ?_
  simp [-cB]
  intro bs2
  refine AWP.seqK ?_
  simp [-cB]
  refine AWP.weaken (Wk.pick [0] [16, 15, 13, 9, 8, 7, 6, 2, 0] (by rfl) (by decide) (by rfl)) ?_
  refine AWP.weaken (Wk.freeze 13 (ys := [taleX]) rfl) ?_
  refine AWP.weaken (Wk.freeze 15 (ys := [taleY]) rfl) ?_
  refine AWP.weaken (Wk.freeze 16 (ys := [[.sl [taleY]]]) rfl) ?_
  refine AWP.weaken (Wk.freeze 2 (ys := [[.v (.string ⟨#[84, 97, 108, 101]⟩)]]) rfl) ?_
  refine AWP.weaken (Wk.freeze 6 (ys := [tThing 0 false, tThing 2 false, tThing 0 true]) rfl) ?_
  refine AWP.weaken (Wk.freeze 7 (ys := [[.v (.int .i64 0)]]) rfl) ?_
  refine AWP.weaken (Wk.freeze 8 (ys := [[.v (.int .i64 0)]]) rfl) ?_
  refine AWP.weaken (Wk.freeze 9 (ys := [[.v (.int .i64 0)]]) rfl) ?_
  refine AWP.weaken (s' := ⟨[(0, .bp 0 0)], [(0, .box (bs 0 + 1) 50 (taleB.enc.map .d))]⟩) (Wk.deep 6 (by rfl)) ?_
  refine AWP.ofK ?_
  simp [-cB]
end Go.Ab

namespace Go.Ab
theorem locsM_lo (a : List Int) (n : Nat) (h : a.length ≤ n) : locsM a n = a.map wrapM ++ List.replicate (n - a.length) 0 := by
  refine List.ext_getElem? fun i => ?_
  show ((List.range n).map fun i => if i < a.length then wrapM (a[i]?.getD 0) else 0)[i]? = _
  rw [List.getElem?_map]
  by_cases hi : i < n
  · rw [List.getElem?_range hi]
    by_cases hA : i < a.length
    · rw [List.getElem?_append_left (by simpa using hA), List.getElem?_map, List.getElem?_eq_getElem hA]
      simp [hA]
    · rw [List.getElem?_append_right (by simpa using hA), List.length_map, List.getElem?_replicate]
      simp [hA]
      omega
  · rw [List.getElem?_eq_none (by simp; omega), List.getElem?_eq_none (by simp; omega)]
    rfl
end Go.Ab

namespace Go.Ab
open Go.Proofs
set_option maxHeartbeats 4000000
set_option maxRecDepth 20000
def taleG : GStory := ⟨taleT, [0], [148, 5, 5, 108]⟩
theorem tale_story : storyM taleB = (taleG, 0) := by kernel_rfl
theorem taleT_wf : taleT.wf := by
  unfold taleT GTables.wf
  simp [GTables.zero, GThing.wf, GThing.zero, inR_i64]
  decide
theorem taleS_wf : taleS.wf := by
  unfold taleS taleE GStmt.wf
  simp [GExpr.wf, GExpr.wfs, GStmt.wfs, inR_i64]
  decide
theorem taleB_wf : taleB.wf := by
  unfold taleB GBook.wf
  refine ⟨taleT_wf, by decide, ?_⟩
  intro l hl
  simp at hl
  subst hl
  refine ⟨by decide, ?_⟩
  intro y hy
  simp at hy
  subst hy
  exact taleS_wf
theorem tale_block : ∀ l ∈ taleB.Routines, RBlock l ∧ szB l ≤ 30000000 := by
  intro l hl
  simp [taleB] at hl
  subst hl
  refine ⟨refBlock_ok (t := taleT) (locals := 0) (by rw [inR_i64]; omega) ?_ (by decide) (by kernel_rfl), by decide +kernel⟩
  intro y hy
  simp at hy
  subst hy
  exact taleS_wf
theorem tale_storyOf : Pure Tryz.prog 44 [.agg (taleB.enc.map .d)] (.tup [.agg (taleG.enc.map .d), intD 0]) := by
  have h := storyOf_ok taleB taleB_wf tale_block
  rw [tale_story] at h
  exact h
theorem tale_new : Pure Tryz.prog 36 [.agg (taleT.enc.map .d)] (.agg ((newM taleT).enc.map .d)) := refNew_ok taleT taleT_wf (by decide) (by decide)
def envZ : GEnv := ⟨0, 0, 0⟩
def mT (W : GWorld) (k fuel : Int) (st : List Int) : GMachine := ⟨[⟨0, k, 0, []⟩], st, envZ, ⟨0, W, ⟨#[]⟩, 0, false, fuel⟩, false⟩
def mE (W : GWorld) : GMachine := ⟨[], [], envZ, ⟨0, W, ⟨#[]⟩, 5, false, 1⟩, true⟩
theorem code_bd : ∀ y ∈ taleG.Code, 0 ≤ y ∧ y ≤ 255 := by decide
theorem tale_dec (at_ : Int) : Pure Tryz.prog 52 [.d (.sl (taleG.Code.map fun y => [.v (.int .u8 y)])), .d (.v (.int .i64 at_))] (decV (decM taleG.Code at_)) := opDecode_ok taleG.Code at_ code_bd (by decide)
theorem tale_step0 (W : GWorld) (F : Int) (hF : 1 ≤ F) : Pure Tryz.prog 20 [.agg (taleG.enc.map .d), .agg ((mT W 0 0 []).enc.map .d), .d (.v (.int .i64 F))] (.agg ((mT W 1 1 []).enc.map .d)) := by
  refine step_run taleG (mT W 0 0 []) (mT W 1 1 []) F [] ⟨0, 0, 0, []⟩ ⟨37, 0⟩ 1 0 rfl rfl (by simp [mT]) (by simp [mT]) (tale_dec 0) (.inr (.inl ⟨rfl, fun wb => ?_⟩))
  exact doTick_ok wb taleG F (mT W 1 0 []) ⟨37, 0⟩ rfl (by simp [mT]) (by simp [mT]; omega)
theorem tale_stepF (W : GWorld) (F : Int) (hF : F < 1) : Pure Tryz.prog 20 [.agg (taleG.enc.map .d), .agg ((mT W 0 0 []).enc.map .d), .d (.v (.int .i64 F))] (.agg ((failedM (mT W 0 0 []) 19).enc.map .d)) := by
  refine step_run taleG (mT W 0 0 []) _ F [] ⟨0, 0, 0, []⟩ ⟨37, 0⟩ 1 0 rfl rfl (by simp [mT]) (by simp [mT]) (tale_dec 0) (.inr (.inr (.inr ⟨rfl, 19, fun wb => ⟨?_, rfl⟩⟩)))
  exact doTick_no wb taleG F (mT W 1 0 []) ⟨37, 0⟩ rfl (by simp [mT]) (by simp [mT]; omega)
theorem tale_step1 (W : GWorld) (F : Int) : Pure Tryz.prog 20 [.agg (taleG.enc.map .d), .agg ((mT W 1 1 []).enc.map .d), .d (.v (.int .i64 F))] (.agg ((mT W 3 1 [5]).enc.map .d)) := by
  refine step_run taleG (mT W 1 1 []) (mT W 3 1 [5]) F [] ⟨0, 1, 0, []⟩ ⟨1, 5⟩ 3 0 rfl rfl (by simp [mT]) (by simp [mT]) (tale_dec 1) (.inr (.inl ⟨rfl, fun wb => ?_⟩))
  exact doPush_ok wb taleG F (mT W 3 1 []) ⟨1, 5⟩ rfl (by simp [mT])
theorem tale_step2 (W : GWorld) (F : Int) : Pure Tryz.prog 20 [.agg (taleG.enc.map .d), .agg ((mT W 3 1 [5]).enc.map .d), .d (.v (.int .i64 F))] (.agg ((mE W).enc.map .d)) := by
  refine step_run taleG (mT W 3 1 [5]) (mE W) F [] ⟨0, 3, 0, []⟩ ⟨27, 0⟩ 4 0 rfl rfl (by simp [mT]) (by simp [mT]) (tale_dec 3) (.inr (.inl ⟨rfl, fun wb => ?_⟩))
  exact doReturn_ok wb taleG F (mT W 4 1 [5]) ⟨27, 0⟩ [] ⟨0, 4, 0, []⟩ [] 5 rfl rfl (by simp) rfl (by simp) (by simp)
theorem tale_step3 (W : GWorld) (F : Int) : Pure Tryz.prog 20 [.agg (taleG.enc.map .d), .agg ((mE W).enc.map .d), .d (.v (.int .i64 F))] (.agg ((mE W).enc.map .d)) := step_ok1 taleG (mE W) F rfl
def mAt (W : GWorld) : Nat → GMachine
  | 0 => mT W 0 0 []
  | 1 => mT W 1 1 []
  | 2 => mT W 3 1 [5]
  | _ => mE W
theorem tale_stepAt (W : GWorld) : ∀ i : Nat, Pure Tryz.prog 20 [.agg (taleG.enc.map .d), .agg ((mAt W i).enc.map .d), .d (.v (.int .i64 4))] (.agg ((mAt W (i + 1)).enc.map .d))
  | 0 => tale_step0 W 4 (by decide)
  | 1 => tale_step1 W 4
  | 2 => tale_step2 W 4
  | _ + 3 => tale_step3 W 4
theorem tale_begin (W : GWorld) : Pure Tryz.prog 18 [.agg (taleG.enc.map .d), .agg (W.enc.map .d), intD 0, .d (.sl (encI [])), .agg (envZ.enc.map .d)] (.agg ((mT W 0 0 []).enc.map .d)) := by
  have h := beginVm_of taleG W 0 [] envZ rfl rfl (by decide) ?_
  · exact h
  · intro r e n he hn hn2 ha
    have := frameVm_ok taleG r e n he hn hn2 [] (by simp) 0
    rw [locsM_lo _ _ (by simp)]
    exact this
def mX (W : GWorld) : GMachine := ⟨[], [], envZ, ⟨11, W, ⟨#[]⟩, 0, false, 0⟩, true⟩
theorem tale_begin9 (W : GWorld) : Pure Tryz.prog 18 [.agg (taleG.enc.map .d), .agg (W.enc.map .d), intD 9, .d (.sl (encI [])), .agg (envZ.enc.map .d)] (.agg ((mX W).enc.map .d)) := by
  have h := beginVm_of taleG W 9 [] envZ rfl rfl (by decide) ?_
  · exact h
  · intro r e n he hn hn2 ha
    have := frameVm_ok taleG r e n he hn hn2 [] (by simp) 0
    rw [locsM_lo _ _ (by simp)]
    exact this
end Go.Ab
