/-
  The texts Vawk2 Gbulk Lok Lgas Lgen2 Lgen3 Lgen4 Lgen5 Lgen6 Lgen7 Lgen8 Lgen9 Ltot Vlaw1 Vlaw2, one behind the other.
-/
import Derived.Test.YtnajleligcjlkaaGreatDoorMg7
set_option linter.unusedSimpArgs false
set_option linter.unusedVariables false
namespace Go.Ab
open Go.Proofs
set_option maxHeartbeats 4000000
set_option maxRecDepth 20000
theorem vmAwake_ok : Pure Tryz.prog 16 [] (boolD true) := by
  obtain ⟨W, hW⟩ : ∃ W, newM taleT = W := ⟨_, rfl⟩
  have hN : Pure Tryz.prog 36 [.agg (taleG.Tables.enc.map .d)] (.agg (W.enc.map .d)) := by rw [← hW]; exact tale_new
  have hT := tale_ok
  have hS := tale_storyOf
  have hB : Pure Tryz.prog 18 [.agg (taleG.enc.map .d), .agg (W.enc.map .d), intD 0, .d (.v (.slice none 0 0)), .agg (envZ.enc.map .d)] (.agg ((mT W 0 0 []).enc.map .d)) := (tale_begin W).deep 0 (by rfl) (by rfl)
  have hX : Pure Tryz.prog 18 [.agg (taleG.enc.map .d), .agg (W.enc.map .d), intD 9, .d (.v (.slice none 0 0)), .agg (envZ.enc.map .d)] (.agg ((mX W).enc.map .d)) := (tale_begin9 W).deep 0 (by rfl) (by rfl)
  have hSt := tale_stepAt W
  have hF := tale_stepF W 0 (by decide)
  generalize taleB = B at *
  generalize taleG = G at *
  refine Pure.run Tryz.func16 rfl (by simp [Tryz.f16]) ?_; simp [-cB, Tryz.f16]
  refine AOps.pureC rfl (hT) rfl rfl (by simp) rfl ?_
  simp [-cB]
  refine AOps.pureC rfl (hS) rfl rfl (by simp) rfl ?_
  simp [-cB]
  intro bs
  refine AOps.pureC rfl (hN) rfl rfl (by simp) rfl ?_
  simp [-cB]
  intro bs2
  refine AOps.pureC rfl (hB) rfl rfl (by simp) rfl ?_
  simp [-cB]
  intro bs3
  refine AWP.loopS [1, 2, 3, 4, 5] 9 (fun i => [(5, intD i)]) (fun i => [(4, .box (bs3 0 + 1) 67 ((mAt W i).enc.map .d))]) (fun _ => True) (by rfl) (by simp [mAt]) ?_
  intro i hi _
  rcases Nat.lt_or_eq_of_le hi with hlt | heq
  · have h64 : inR .i64 ((i : Int) + 1) := by rw [inR_i64]; omega
    have hc := hSt i
    have hli : (i : Int) < 9 := by omega
    simp [-cB, hli]
    refine AOps.pureC rfl (hc) rfl rfl (by simp) rfl ?_
    simp [-cB, h64]
    omega
  · subst heq
    simp [-cB]
    refine AOps.pureC rfl (hX) rfl rfl (by simp) rfl ?_
    simp [-cB]
    intro bs4
    refine AWP.regionM [some (0, 1), some (0, 1), some (0, 1), some (0, 1), some (0, 1), some (0, 1), none, none] [.agg ((mT W 0 0 []).enc.map .d), .agg ((failedM (mT W 0 0 []) 19).enc.map .d)] Tryz.mixed (by kernel_rfl) ?_
    have h9 : mAt W 9 = mE W := rfl
    rw [h9]
    simp [-cB, hB.ok, hF.ok]
    exact ⟨hB.ok _, hB.ok _, by simp [mE, mX, mT, failedM]⟩
end Go.Ab

namespace Go.Ab
open Go.Proofs
set_option maxRecDepth 40000
set_option maxHeartbeats 4000000
theorem szB_bulk : ∀ (N : Nat) (l : List GStmt), SizeOf.sizeOf l < N → szB l ≤ bDss (l.map GStmt.enc) := by
  have hE : ∀ (N : Nat) (l : List GExpr), SizeOf.sizeOf l < N → szEs l ≤ bDss (l.map GExpr.enc) := by
    intro N
    induction N with
    | zero => intro l h; omega
    | succ N ih =>
      intro l h
      cases l with
      | nil => simp [szEs]
      | cons x l =>
        have hl : SizeOf.sizeOf l < N := by simp only [List.cons.sizeOf_spec] at h; omega
        have hx : SizeOf.sizeOf x < N := by simp only [List.cons.sizeOf_spec] at h; omega
        have h1 := ih l hl
        have h2 := ih x.Args (by cases x; simp only [GExpr.Args_mk]; simp only [GExpr.mk.sizeOf_spec] at hx; omega)
        have h3 : bDs x.enc = bD (.v (.int .i64 x.Kind)) + (bD (.v (.int .i64 x.Op)) + (bD (.v (.int .i64 x.Num)) + (bD (.v (.string x.Name)) + (bD (.sl (x.Args.map GExpr.enc)) + 0)))) := by
          cases x; simp [GExpr.enc, GExpr.encs_eq, bDs]
        rw [szEs, szE_eq, List.map_cons, bDss, h3]
        simp only [bD]
        omega
  intro N
  induction N with
  | zero => intro l h; omega
  | succ N ih =>
    intro l h
    cases l with
    | nil => simp [szB]
    | cons s l =>
      have hl : SizeOf.sizeOf l < N := by simp only [List.cons.sizeOf_spec] at h; omega
      have hs : SizeOf.sizeOf s < N := by simp only [List.cons.sizeOf_spec] at h; omega
      have hb := GStmt.lt_body s
      have he := GStmt.lt_else s
      have h1 := ih l hl
      have h2 := ih s.Body (by omega)
      have h3 := ih s.Else (by omega)
      have h4 := hE _ s.Args (Nat.lt_succ_self _)
      have h5 : bDs s.enc = bD (.v (.int .i64 s.Kind)) + (bD (.v (.int .i64 s.Num)) + (bD (.v (.string s.Name)) + (bD (.sl (s.Args.map GExpr.enc)) + (bD (.sl (s.Body.map GStmt.enc)) + (bD (.sl (s.Else.map GStmt.enc)) + 0))))) := by
        cases s; simp [GStmt.enc, GStmt.encs_eq, bDs]
      rw [szB, szS_eq, List.map_cons, bDss, h5]
      simp only [bD]
      omega
end Go.Ab

namespace Go.Ab
section
variable {t : GTables} {w : GWorld}
end
end Go.Ab

namespace Go.Ab
def Sub {α : Type} (a b : Option α) : Prop := ∀ p, a = some p → b = some p
structure GM (c : XC) (g : Nat) : Prop where
  ask : ∀ σ e, Sub (askX c g σ e) (askX c (g + 1) σ e)
  asks : ∀ σ l, Sub (asksX c g σ l) (asksX c (g + 1) σ l)
  call : ∀ σ r a, Sub (callX c g σ r a) (callX c (g + 1) σ r a)
  block : ∀ σ l, Sub (blockX c g σ l) (blockX c (g + 1) σ l)
  stmt : ∀ σ x, Sub (stmtX c g σ x) (stmtX c (g + 1) σ x)
  says : ∀ σ l, Sub (saysX c g σ l) (saysX c (g + 1) σ l)
  say : ∀ σ x, Sub (sayX c g σ x) (sayX c (g + 1) σ x)
  whil : ∀ σ x, Sub (whileX c g σ x) (whileX c (g + 1) σ x)
  each : ∀ σ x, Sub (eachX c g σ x) (eachX c (g + 1) σ x)
  does : ∀ σ x a, Sub (doesX c g σ x a) (doesX c (g + 1) σ x a)
end Go.Ab

namespace Go.Ab
def ResE (c : XC) (d : Nat) (l r : List GIns) (S L : List Int) (σ : MS) (b : List GIns) (S0 : List Int) (σ' : XS) : OC → Prop
  | .nrm n => wrapM n = n ∧ GoX c d l r S L σ b (n :: S0) σ'.Ls (msX σ')
  | .thr x => StopX c d l r S L σ (.thr x (msX σ'))
  | .over => StopX c d l r S L σ (.over (msX σ'))
  | .ret _ => False
def ResS (c : XC) (d : Nat) (l r : List GIns) (S L : List Int) (σ : MS) (b : List GIns) (S0 : List Int) (σ' : XS) : OC → Prop
  | .nrm _ => GoX c d l r S L σ b S0 σ'.Ls (msX σ')
  | .thr x => StopX c d l r S L σ (.thr x (msX σ'))
  | .over => StopX c d l r S L σ (.over (msX σ'))
  | .ret n => StopX c d l r S L σ (.ret n (msX σ'))
def ResA (c : XC) (d : Nat) (l r : List GIns) (S L : List Int) (σ : MS) (b : List GIns) (S0 : List Int) (σ' : XS) : List Int ⊕ OC → Prop
  | .inl a => (∀ n ∈ a, wrapM n = n) ∧ GoX c d l r S L σ b (a.reverse ++ S0) σ'.Ls (msX σ')
  | .inr (.thr x) => StopX c d l r S L σ (.thr x (msX σ'))
  | .inr .over => StopX c d l r S L σ (.over (msX σ'))
  | .inr _ => False
end Go.Ab

namespace Go.Ab
end Go.Ab

namespace Go.Ab
def WL (l : List Int) : Prop := ∀ n ∈ l, wrapM n = n
def mS (x : GStmt) (m : Int) : Int := if x.Kind = 9 then (if x.Else = [] then m + 1 else m + 2) else if x.Kind = 11 then m + 2 else m
def kS (x : GStmt) (m : Int) : Int := (genEs x.Args (mS x m)).2
def eachC (x : GStmt) (m : Int) : List GIns := [⟨38, m⟩, ⟨5, x.Num⟩, ⟨25, m + 1⟩, tick, ⟨5, x.Num⟩, ⟨19, 3⟩, ⟨6, x.Num + 1⟩] ++ (genB x.Body (kS x m)).1 ++ [⟨5, x.Num + 1⟩, ⟨6, x.Num⟩, ⟨24, m⟩, ⟨38, m + 1⟩]
def tailS (x : GStmt) (m : Int) : List GIns :=
  if x.Kind = 9 then (if x.Else = [] then [⟨25, m⟩] ++ (genB x.Body (kS x m)).1 ++ [⟨38, m⟩] else [⟨25, m⟩] ++ (genB x.Body (kS x m)).1 ++ [⟨24, m + 1⟩, ⟨38, m⟩] ++ (genB x.Else (genB x.Body (kS x m)).2).1 ++ [⟨38, m + 1⟩])
  else if x.Kind = 11 then [⟨19, 2⟩, ⟨6, x.Num⟩] ++ eachC x m
  else [deedM x.Kind x.Num]
structure SimOK (c : XC) (g : Nat) : Prop where
  ask : ∀ σ e σ' o, askX c g σ e = some (σ', o) → ∀ loc, boundM c.B.Tables loc e false = true → σ'.Dp = σ.Dp ∧ σ'.Ls = σ.Ls ∧ (WL σ.Ls → ∀ (m : Int) (l a b : List GIns), l = a ++ ((genE e m).1 ++ b) → (labsL l).Nodup → ∀ (d : Nat) (S : List Int), σ.Dp = d →
    ResE c d l ((genE e m).1 ++ b) S σ.Ls (msX σ) b S σ' o)
  asks : ∀ σ es σ' o, asksX c g σ es = some (σ', o) → ∀ loc, (∀ e ∈ es, boundM c.B.Tables loc e false = true) → σ'.Dp = σ.Dp ∧ σ'.Ls = σ.Ls ∧ (∀ a, o = .inl a → a.length = es.length) ∧ (WL σ.Ls → ∀ (m : Int) (l a b : List GIns), l = a ++ ((genEs es m).1 ++ b) → (labsL l).Nodup → ∀ (d : Nat) (S : List Int), σ.Dp = d →
    ResA c d l ((genEs es m).1 ++ b) S σ.Ls (msX σ) b S σ' o)
  call : ∀ σ r a σ' o, callX c g σ r a = some (σ', o) → σ'.Dp = σ.Dp ∧ σ'.Ls = σ.Ls ∧ ∀ (d : Nat), σ.Dp = d → (32 ≤ d → o = .thr 17 ∧ msX σ' = msX σ) ∧ (d < 32 → match o with
    | .nrm n => StopX c (d + 1) (codeX c.B r) (codeX c.B r) [] ((machX c).lo r a) (msX σ) (.ret n (msX σ'))
    | .thr x => StopX c (d + 1) (codeX c.B r) (codeX c.B r) [] ((machX c).lo r a) (msX σ) (.thr x (msX σ'))
    | .over => StopX c (d + 1) (codeX c.B r) (codeX c.B r) [] ((machX c).lo r a) (msX σ) (.over (msX σ'))
    | .ret _ => False)
  block : ∀ σ ls σ' o, blockX c g σ ls = some (σ', o) → ∀ loc, (∀ s ∈ ls, boundS c.B.Tables loc s = true) → σ'.Dp = σ.Dp ∧ (WL σ.Ls → WL σ'.Ls ∧ ∀ (m : Int) (l a b : List GIns), l = a ++ ((genB ls m).1 ++ b) → (labsL l).Nodup → ∀ (d : Nat) (S : List Int), σ.Dp = d →
    ResS c d l ((genB ls m).1 ++ b) S σ.Ls (msX σ) b S σ' o)
  stmt : ∀ σ x σ' o, stmtX c g σ x = some (σ', o) → ∀ loc, boundS c.B.Tables loc x = true → σ'.Dp = σ.Dp ∧ (WL σ.Ls → WL σ'.Ls ∧ ∀ (m : Int) (l a b : List GIns), l = a ++ ((genS x m).1 ++ b) → (labsL l).Nodup → ∀ (d : Nat) (S : List Int), σ.Dp = d →
    ResS c d l ((genS x m).1 ++ b) S σ.Ls (msX σ) b S σ' o)
  says : ∀ σ es σ' o, saysX c g σ es = some (σ', o) → ∀ loc, (∀ e ∈ es, boundM c.B.Tables loc e true = true) → σ'.Dp = σ.Dp ∧ σ'.Ls = σ.Ls ∧ (WL σ.Ls → ∀ (m : Int) (l a b : List GIns), l = a ++ ((genSay es m).1 ++ b) → (labsL l).Nodup → ∀ (d : Nat) (S : List Int), σ.Dp = d →
    ResS c d l ((genSay es m).1 ++ b) S σ.Ls (msX σ) b S σ' o)
  say : ∀ σ e σ' o, sayX c g σ e = some (σ', o) → ∀ loc, boundM c.B.Tables loc e true = true → σ'.Dp = σ.Dp ∧ σ'.Ls = σ.Ls ∧ (WL σ.Ls → ∀ (m : Int) (l a b : List GIns), l = a ++ ((sayI e m).1 ++ b) → (labsL l).Nodup → ∀ (d : Nat) (S : List Int), σ.Dp = d →
    ResS c d l ((sayI e m).1 ++ b) S σ.Ls (msX σ) b S σ' o)
  whil : ∀ σ x σ' o, whileX c g σ x = some (σ', o) → x.Kind = 10 → ∀ loc, boundS c.B.Tables loc x = true → σ'.Dp = σ.Dp ∧ (WL σ.Ls → WL σ'.Ls ∧ ∀ (m : Int) (l a b : List GIns), l = a ++ ((genS x m).1 ++ b) → (labsL l).Nodup → ∀ (d : Nat) (S : List Int), σ.Dp = d →
    ResS c d l ((genS x m).1 ++ b) S σ.Ls (msX σ) b S σ' o)
  each : ∀ σ x σ' o, eachX c g σ x = some (σ', o) → x.Kind = 11 → ∀ loc, boundS c.B.Tables loc x = true → σ'.Dp = σ.Dp ∧ (WL σ.Ls → WL σ'.Ls ∧ ∀ (m : Int) (l a b : List GIns), l = a ++ (eachC x m ++ b) → (labsL l).Nodup → ∀ (d : Nat) (S : List Int), σ.Dp = d →
    ResS c d l (eachC x m ++ b) S σ.Ls (msX σ) b S σ' o)
  does : ∀ σ x v σ' o, doesX c g σ x v = some (σ', o) → x.Kind ≠ 1 → x.Kind ≠ 10 → v.length = x.Args.length → ∀ loc, boundS c.B.Tables loc x = true → σ'.Dp = σ.Dp ∧ (WL σ.Ls → (∀ n ∈ v, wrapM n = n) → WL σ'.Ls ∧ ∀ (m : Int) (l a b : List GIns), l = a ++ (tailS x m ++ b) → (labsL l).Nodup → ∀ (d : Nat) (S : List Int), σ.Dp = d →
    ResS c d l (tailS x m ++ b) (v.reverse ++ S) σ.Ls (msX σ) b S σ' o)
structure BookOK (b : GBook) : Prop where
  fits : fitsB b.Tables = true
  len : b.Routines.length = b.Tables.Params.length
  bnd : ∀ r, inL b.Routines r → boundB b.Tables (getI b.Tables.Locals r) (b.Routines[r.toNat]?.getD []) = true
end Go.Ab

namespace Go.Ab
end Go.Ab

namespace Go.Ab
end Go.Ab

namespace Go.Ab
end Go.Ab

namespace Go.Ab
end Go.Ab

namespace Go.Ab
end Go.Ab

namespace Go.Ab
theorem fits_parts {t : GTables} (hf : fitsB t = true) : (∀ s ∈ t.Texts, s.size ≤ 1024) ∧ (∀ r : Int, 0 ≤ r → r < t.Params.length → (0 ≤ getI t.Params r ∧ getI t.Params r ≤ 8) ∧ getI t.Params r ≤ getI t.Locals r ∧ getI t.Locals r ≤ 24) ∧ (∀ n ∈ t.Funcs, 0 ≤ n ∧ n < t.Params.length) := by
  unfold fitsB headB rulesB at hf
  simp only [Bool.and_eq_true, decide_eq_true_eq, fromB, allB, List.all_eq_true, List.mem_range] at hf
  obtain ⟨⟨⟨⟨h1, h2⟩, h3⟩, h4⟩, h5⟩ := hf
  refine ⟨fun s hs => ?_, fun r r1 r2 => ?_, fun n hn => ?_⟩
  · have := h2 s hs
    unfold isTextB at this
    simp only [Bool.and_eq_true, decide_eq_true_eq] at this
    exact this.2
  · have := h3 r.toNat (by omega)
    unfold paramB fromB at this
    simp only [Bool.and_eq_true, decide_eq_true_eq] at this
    unfold getI
    omega
  · have := h5.2.2.2.1 n hn
    omega
structure Rl (c : XC) (k : Int) (σ σ' : XS) : Prop where
  w : okW c σ'.W = true
  ls : σ'.Ls.length = σ.Ls.length
  dp : σ'.Dp = σ.Dp
  f1 : σ.Fuel ≤ σ'.Fuel
  f2 : σ'.Fuel ≤ max c.M 0
  out : (σ'.Out.size : Int) + 1300000 * σ.Fuel ≤ σ.Out.size + k + 1300000 * σ'.Fuel
structure Iv (c : XC) (σ : XS) : Prop where
  w : okW c σ.W = true
  d0 : 0 ≤ σ.Dp ∧ σ.Dp ≤ 32
  f0 : 0 ≤ σ.Fuel
  f2 : σ.Fuel ≤ max c.M 0
  out : (σ.Out.size : Int) ≤ 1300000 * σ.Fuel
section
variable {c : XC} (hB : BookOK c.B) (hM : c.M ≤ 1000000) {d loc : Int}
end
end Go.Ab

namespace Go.Ab
open Go.Proofs
set_option maxHeartbeats 4000000
set_option maxRecDepth 20000
def okL (b : GBook) (w : GWorld) : Bool := decide (b.Routines.length ≤ 12) && decide (b.Tables.Things.length ≤ 20) && rightBookB b && rightB b.Tables w
def storyA (b : GBook) (w : GWorld) : GStory × Bool := if okL b w then ((storyM b).1, (storyM b).2 == 0) else (GStory.zero, false)
theorem rblock_of {b : GBook} (hb : b.wf) (h : rightBookB b = true) (hz : ∀ l ∈ b.Routines, szB l ≤ 30000000) : ∀ l ∈ b.Routines, RBlock l ∧ szB l ≤ 30000000 := by
  intro l hl
  refine ⟨?_, hz l hl⟩
  unfold rightBookB at h
  simp only [Bool.and_eq_true, decide_eq_true_eq, List.all_eq_true] at h
  obtain ⟨⟨h1, h2⟩, h3⟩ := h
  obtain ⟨k, hk, hkl⟩ := List.getElem_of_mem hl
  have hg := h3 k (by simpa using hk)
  unfold goodR at hg
  simp only [Bool.and_eq_true] at hg
  have hb1 := hg.1.1.2
  rw [List.getElem?_eq_getElem hk, hkl] at hb1
  have ht := GBook.wf_Tables hb
  have hw : l.length * 104 ≤ 140737488351232 ∧ ∀ y ∈ l, y.wf := hb.2.2 l hl
  have hlo : inR .i64 (b.Tables.Locals[k]?.getD 0) := by
    cases hL : b.Tables.Locals[k]? with
    | none => rw [inR_i64]; simp
    | some y => exact GTables.wf_Locals ht y (List.mem_of_getElem? hL)
  exact refBlock_ok (t := b.Tables) (locals := b.Tables.Locals[k]?.getD 0) hlo hw.2 hw.1 hb1
theorem story_dims {b : GBook} {s : GStory} (h : storyM b = (s, 0)) : rightBookB b = true ∧ s.Tables = b.Tables ∧ s.Entry.length = b.Routines.length := by
  unfold storyM at h
  split at h
  · simp at h
  · rename_i hr
    split at h
    · rename_i he
      simp only [Prod.mk.injEq] at h
      exact absurd h.2 he
    · split at h
      · simp at h
      · simp only [Prod.mk.injEq, and_true] at h
        subst h
        have hl : ∀ k, (stM b k).1.length = k := by
          intro k
          induction k with
          | zero => rfl
          | succ k ih => rw [stM]; simp [ih]
        exact ⟨by simpa using hr, rfl, hl _⟩
theorem storyL_ok (b : GBook) (w : GWorld) (hb : b.wf) (hw : w.wf) (hz : ∀ l ∈ b.Routines, szB l ≤ 30000000) : Pure Tryz.prog 15 [.agg (b.enc.map .d), .agg (w.enc.map .d)] (.tup [.agg ((storyA b w).1.enc.map .d), boolD (storyA b w).2]) := by
  have hr := rightBook_ok b hb
  by_cases h1 : 12 < b.Routines.length
  · have e : storyA b w = (GStory.zero, false) := by unfold storyA okL; rw [if_neg (by simp; omega)]
    rw [e]
    have h1i : (12 : Int) < b.Routines.length := by omega
    refine Pure.run Tryz.func15 rfl (by simp [Tryz.f15]) ?_; simp [-cB, Tryz.f15]
    intro bs
    simp [-cB, h1i]
    refine AOps.pureG rfl (g := false) (x := boolD true) (fun h => by cases h) rfl (by first | rfl | (simp; rfl)) (by simp) (by simp) rfl ?_
    simp [-cB]
    refine AOps.pureG rfl (g := false) (x := boolD true) (fun h => by cases h) rfl (by first | rfl | (simp; rfl)) (by simp) (by simp) rfl ?_
    simp [-cB]
    rfl
  have h1i : ¬ (12 : Int) < b.Routines.length := by omega
  by_cases h2 : 20 < b.Tables.Things.length
  · have e : storyA b w = (GStory.zero, false) := by unfold storyA okL; rw [if_neg (by simp; omega)]
    rw [e]
    have h2i : (20 : Int) < b.Tables.Things.length := by omega
    refine Pure.run Tryz.func15 rfl (by simp [Tryz.f15]) ?_; simp [-cB, Tryz.f15]
    intro bs
    simp [-cB, h1i, h2i]
    refine AOps.pureG rfl (g := false) (x := boolD true) (fun h => by cases h) rfl (by first | rfl | (simp; rfl)) (by simp) (by simp) rfl ?_
    simp [-cB]
    refine AOps.pureG rfl (g := false) (x := boolD true) (fun h => by cases h) rfl (by first | rfl | (simp; rfl)) (by simp) (by simp) rfl ?_
    simp [-cB]
    rfl
  have h2i : ¬ (20 : Int) < b.Tables.Things.length := by omega
  cases h3 : rightBookB b with
  | false =>
    have e : storyA b w = (GStory.zero, false) := by unfold storyA okL; rw [if_neg (by simp [h3])]
    rw [e]
    rw [h3] at hr
    refine Pure.run Tryz.func15 rfl (by simp [Tryz.f15]) ?_; simp [-cB, Tryz.f15]
    intro bs
    simp [-cB, h1i, h2i]
    refine AOps.pureG rfl (fun _ => hr) rfl (by first | rfl | (simp; rfl)) (by simp) (by simp) rfl ?_
    simp [-cB]
    refine AOps.pureG rfl (g := false) (x := boolD true) (fun h => by cases h) rfl (by first | rfl | (simp; rfl)) (by simp) (by simp) rfl ?_
    simp [-cB]
    rfl
  | true =>
    rw [h3] at hr
    have hf : fitsB b.Tables = true := by
      unfold rightBookB at h3
      simp only [Bool.and_eq_true] at h3
      exact h3.1.1
    have hR := refRight_ok b.Tables (GBook.wf_Tables hb) w hw (fits_dims hf).2.1 (fits_dims hf).1.2
    cases h4 : rightB b.Tables w with
    | false =>
      have e : storyA b w = (GStory.zero, false) := by unfold storyA okL; rw [if_neg (by simp [h4])]
      rw [e]
      rw [h4] at hR
      refine Pure.run Tryz.func15 rfl (by simp [Tryz.f15]) ?_; simp [-cB, Tryz.f15]
      intro bs
      simp [-cB, h1i, h2i]
      refine AOps.pureG rfl (fun _ => hr) rfl (by first | rfl | (simp; rfl)) (by simp) (by simp) rfl ?_
      simp [-cB]
      refine AOps.pureG rfl (fun _ => hR) rfl (by first | rfl | (simp; rfl)) (by simp) (by simp) rfl ?_
      simp [-cB]
      rfl
    | true =>
      have e : storyA b w = ((storyM b).1, (storyM b).2 == 0) := by unfold storyA okL; rw [if_pos (by simp [h3, h4]; omega)]
      rw [e]
      rw [h4] at hR
      have hS := storyOf_ok b hb (rblock_of hb h3 hz)
      generalize storyM b = S at *
      refine Pure.run Tryz.func15 rfl (by simp [Tryz.f15]) ?_; simp [-cB, Tryz.f15]
      intro bs
      simp [-cB, h1i, h2i]
      refine AOps.pureG rfl (fun _ => hr) rfl (by first | rfl | (simp; rfl)) (by simp) (by simp) rfl ?_
      simp [-cB]
      refine AOps.pureG rfl (fun _ => hR) rfl (by first | rfl | (simp; rfl)) (by simp) (by simp) rfl ?_
      simp [-cB]
      refine AOps.pureC rfl (hS) rfl rfl (by simp) rfl ?_
      simp [-cB]
theorem seedU {w : GWorld} (hw : w.wf) : 0 ≤ w.Seed ∧ w.Seed < 18446744073709551616 := by
  have h := hw
  unfold GWorld.wf at h
  obtain ⟨_, _, _, _, _, _, _, _, _, _, _, _, _, _, h8, _⟩ := h
  have h1 : (0 : Int) ≤ w.Seed := h8.1
  have h2 : w.Seed ≤ 18446744073709551615 := h8.2
  omega
theorem vmBegins_ok (b : GBook) (w : GWorld) (c : GCall) (hb : b.wf) (hw : w.wf) (hz : ∀ l ∈ b.Routines, szB l ≤ 30000000) : Pure Tryz.prog 4 [.agg (b.enc.map .d), .agg (w.enc.map .d), .agg (c.enc.map .d)] (boolD true) := by
  have hst := storyL_ok b w hb hw hz
  have awk := vmAwake_ok
  cases hok : (storyA b w).2 with
  | false =>
    rw [hok] at hst
    generalize (storyA b w).1 = s at *
    refine Pure.run Tryz.func4 rfl (by simp [Tryz.f4]) ?_; simp [-cB, Tryz.f4]
    intro bs
    refine AOps.pureC rfl (hst) rfl rfl (by simp) rfl ?_
    simp [-cB]
    intro bs2
    refine AOps.pureC rfl (awk) rfl rfl (by simp) rfl ?_
    simp [-cB]
  | true =>
    obtain ⟨s, hs⟩ : ∃ s, storyM b = (s, 0) := by
      unfold storyA at hok
      split at hok
      · exact ⟨(storyM b).1, Prod.ext rfl (by simpa using hok)⟩
      · cases hok
    have hokL : okL b w = true := by
      unfold storyA at hok
      split at hok
      · assumption
      · cases hok
    obtain ⟨hrb, hT, hE⟩ := story_dims hs
    have hb2 := hrb
    unfold rightBookB at hb2
    simp only [Bool.and_eq_true, decide_eq_true_eq] at hb2
    have hf := hb2.1.1
    have hRl := hb2.1.2
    have hdm := fits_dims hf
    obtain ⟨-, hpar, -⟩ := fits_parts hf
    have hrw : rightB b.Tables w = true := by
      unfold okL at hokL
      simp only [Bool.and_eq_true] at hokL
      exact hokL.2
    have hkw := OkW.of hf hrw (seedU hw)
    have e1 : (storyA b w).1 = s := by unfold storyA; rw [if_pos hokL, hs]
    rw [hok, e1] at hst
    have l1 : s.Entry.length = s.Tables.Params.length := by rw [hT, hE]; exact hRl
    have l2 : s.Tables.Locals.length = s.Tables.Params.length := by rw [hT]; omega
    have l3 : ∀ n ∈ s.Tables.Locals, 0 ≤ n ∧ n ≤ 1000000 := by
      intro n hn
      rw [hT] at hn
      obtain ⟨k, hk, hkn⟩ := List.getElem_of_mem hn
      have := hpar k (by omega) (by omega)
      have hg : getI b.Tables.Locals k = n := by unfold getI; rw [Int.toNat_natCast, List.getElem?_eq_getElem hk, hkn]; rfl
      rw [hg] at this
      omega
    by_cases h20 : 20 < c.Args.length
    · have h20i : (20 : Int) < c.Args.length := by omega
      refine Pure.run Tryz.func4 rfl (by simp [Tryz.f4]) ?_; simp [-cB, Tryz.f4]
      intro bs
      refine AOps.pureC rfl (hst) rfl rfl (by simp) rfl ?_
      simp [-cB, h20i]
      intro bs2
      refine AOps.pureC rfl (awk) rfl rfl (by simp) rfl ?_
      simp [-cB]
    have h20i : ¬ (20 : Int) < c.Args.length := by omega
    have hb32 := begin32_ok s w c.Routine c.Args c.Env l1 l2 l3
    have hbVm := beginVm_of s w c.Routine c.Args c.Env l1 l2 l3 (by
      intro r e n he hn hn2 ha
      have hle : c.Args.length ≤ n := by
        obtain ⟨hk, hkn⟩ := List.getElem?_eq_some_iff.1 hn
        have h1 := hpar r (by omega) (by rw [hT] at l2 hk; omega)
        have hg : getI s.Tables.Locals r = n := by unfold getI; rw [Int.toNat_natCast, hn]; rfl
        rw [hT] at hg ha
        omega
      have := frameVm_ok s r e n he hn hn2 c.Args hle 0
      rw [locsM_lo _ _ hle]
      exact this)
    have hsh : shortM (begM s w c.Routine c.Args c.Env) := by
      have hsw : shortW w := by
        have k1 := hkw.hC; have k2 := hkw.hN; have k3 := hkw.hT; have k4 := hkw.hF; have k5 := hkw.hP; have k6 := hkw.hG; have k7 := hkw.hD; have k8 := hkw.hn; have k9 := hkw.hp
        have k10 : b.Tables.Things.length * b.Tables.Props.length ≤ 128 * 16 := Nat.mul_le_mul k8.2 k9
        unfold shortW
        omega
      unfold begM
      split
      · exact ⟨by simp, by simp, by simp, hsw⟩
      · split
        · exact ⟨by simp, by simp, by simp, hsw⟩
        · rename_i hr _
          refine ⟨by simp, by simp, ?_, hsw⟩
          intro f hf
          simp at hf
          subst hf
          simp only [locsM_len]
          have hk : c.Routine.toNat < s.Tables.Locals.length := by omega
          have := l3 _ (List.getElem_mem hk)
          have hg : getI s.Tables.Locals c.Routine = s.Tables.Locals[c.Routine.toNat] := by unfold getI; rw [List.getElem?_eq_getElem hk]; rfl
          rw [hg]
          omega
    have hsame := sameM_self _ hsh
    generalize begM s w c.Routine c.Args c.Env = M at *
    refine Pure.run Tryz.func4 rfl (by simp [Tryz.f4]) ?_; simp [-cB, Tryz.f4]
    intro bs
    refine AOps.pureC rfl (hst) rfl rfl (by simp) rfl ?_
    simp [-cB, h20i]
    intro bs2
    refine AWP.regionD [.agg (M.enc.map .d), .agg (M.enc.map .d), boolD true, boolD true] Tryz.mixed (by kernel_rfl) (by rfl) ?_
    simp [-cB]
    exact ⟨hbVm.ok _, hb32.ok _, hsame.ok _, awk.ok _⟩
end Go.Ab

namespace Go.Ab
open Go.Proofs
set_option maxRecDepth 20000
theorem bDss_mem {x : List D} : ∀ {L : List (List D)}, x ∈ L → bDs x ≤ bDss L
  | [], h => by cases h
  | y :: L, h => by
    rw [bDss]
    rcases List.mem_cons.1 h with rfl | h
    · omega
    · have := bDss_mem h; omega
theorem bDs_mem {x : D} : ∀ {L : List D}, x ∈ L → bD x ≤ bDs L
  | [], h => by cases h
  | y :: L, h => by
    rw [bDs]
    rcases List.mem_cons.1 h with rfl | h
    · omega
    · have := bDs_mem h; omega
theorem routines_small {b : GBook} {r : List (List D)} (hB : bDss (b.enc :: r) ≤ 1048576) : ∀ l ∈ b.Routines, szB l ≤ 30000000 := by
  intro l hl
  have h1 : bDs b.enc ≤ 1048576 := by rw [bDss] at hB; omega
  have h2 : D.sl (encSl (List.map GStmt.enc) b.Routines) ∈ b.enc := by simp [GBook.enc]
  have h3 := bDs_mem h2
  rw [bD] at h3
  have h4 : [D.sl (l.map GStmt.enc)] ∈ encSl (List.map GStmt.enc) b.Routines := List.mem_map.2 ⟨l, hl, rfl⟩
  have h5 := bDss_mem h4
  simp only [bDs, bD] at h5
  have h6 := szB_bulk _ l (Nat.lt_succ_self _)
  omega
theorem vmBegins_up (b : GBook) (hb : b.wf) (w : GWorld) (hw : w.wf) (c : GCall) (hB : bDss [b.enc, w.enc, c.enc] ≤ 1048576) : Pure Tryz.prog 4 [.agg (b.enc.map .d), .agg (w.enc.map .d), .agg (c.enc.map .d)] (boolD true) := vmBegins_ok b w c hb hw (routines_small hB)
end Go.Ab
