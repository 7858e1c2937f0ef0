/-
  The texts Bval Bval2 Lex Lmach Lsim Lpeep Lpeep2 Lcode Lmc Lasm Gfew Gbound Gref Pd Pe Pf Pt Pu Dn Vpeep Vpeep2 Vpeep3 Vpeep4 Vpeep5 Vasm Vasm2 Lo Vasm3 Vasm4 Vasm5 Vasm6 Vasm7 Vasm8 Gexpr Gwrite Gwexpr Gwlog Gwx Gex Glook Glaw1 Gsfew Gsfew2 Gst Gst2 Gst3 Gst4 Gst5 Gst6 Gst7 Gst8 Gst9 Glaw2 Vbook Gtick Nest4 Bok Lgen Vbook2 Vbook3, one behind the other.
-/
import Derived.Test.YtfcjkjahbmcabaaGreatMg3
set_option linter.unusedSimpArgs false
set_option linter.unusedVariables false
namespace Go.Ab
open Go.Proofs
def tru (b : Bool) : Int := if b then 1 else 0
def treeR (w : GWorld) (what x : Int) : Int × Int :=
  if what = 1 ∨ what = 2 ∨ what = 3 then
    if isT w.Parent.length (wrapM x) then ((if what = 1 then atI w.Parent (wrapM x) else if what = 2 then atI w.Child (wrapM x) else atI w.Next (wrapM x)), 0) else (0, 11)
  else (0, 16)
def selfR (w : GWorld) (e : GEnv) (what : Int) : Int × Int :=
  if what = 1 then (topM w.tree 1, 0) else if what = 2 then (1, 0) else if what = 3 then (wrapM e.Noun, 0) else if what = 4 then (wrapM e.Second, 0) else if what = 5 then (wrapM e.Number, 0) else if what = 6 then (wrapM w.Score, 0) else (0, 16)
theorem not_ok (n : Int) : Pure Tryz.prog 196 [.d (.v (.int .i64 n))] (.d (.v (.int .i64 (tru (decide (wrapM n = 0)))))) := by
  unfold tru
  refine Pure.run Tryz.func196 rfl (by simp [Tryz.f196]) ?_; simp [-cB, Tryz.f196]
  try intro (_ : Nat → Nat)
  repeat' (first
    | (with_reducible refine And.intro ?_ ?_)
    | (refine condC_split (fun h => ?_) (fun h => ?_) <;> (try simp at h) <;> (try simp [-cB, *]))
    | (refine AOps.pureC rfl (wrap_ok _) rfl rfl (by simp) rfl ?_ <;> (try simp [-cB, *]))
    | (refine AOps.lendC rfl (wrap_ok _) rfl (by simp) rfl rfl (by simp) rfl ?_ <;> (try simp [-cB, *]))
    | (refine AOps.pureG rfl (fun h => wrap_ok _) rfl (by first | rfl | (simp; rfl)) (by simp) (by simp) rfl ?_ <;> (try simp [-cB, *]))
    | (with_reducible intro _))
theorem tree_ok (w : GWorld) (hC : w.Child.length = w.Parent.length) (hN : w.Next.length = w.Parent.length) (what x : Int) : Pure Tryz.prog 207 [.agg (w.enc.map .d), .d (.v (.int .i64 what)), .d (.v (.int .i64 x))] (pr2 (treeR w what x)) := by
  unfold treeR pr2
  generalize hy : wrapM x = y
  have hw : what = 1 ∨ what = 2 ∨ what = 3 ∨ (¬ what = 1 ∧ ¬ what = 2 ∧ ¬ what = 3) := by omega
  rcases hw with rfl | rfl | rfl | ⟨a1, a2, a3⟩ <;> cases hT : isT w.Parent.length y
  all_goals
    try have g1 := atI_getD hT
    try have g2 := atI_getD (l := w.Child) (by rw [hC]; exact hT)
    try have g3 := atI_getD (l := w.Next) (by rw [hN]; exact hT)
    try have hb := isT_iff.1 hT
    refine Pure.run Tryz.func207 rfl (by simp [Tryz.f207]) ?_; simp [-cB, Tryz.f207]
    try intro (_ : Nat → Nat)
    repeat' (first
      | (with_reducible refine And.intro ?_ ?_)
      | (refine condC_split (fun h => ?_) (fun h => ?_) <;> (try simp at h) <;> (try simp [-cB, *]))
      | (refine AOps.pureC rfl (wrap_ok _) rfl rfl (by simp) rfl ?_ <;> (try simp [-cB, *]))
      | (refine AOps.pureC rfl (isP_ok w _) rfl rfl (by simp) rfl ?_ <;> (try simp [-cB, *]))
      | (refine AOps.lendC rfl (wrap_ok _) rfl (by simp) rfl rfl (by simp) rfl ?_ <;> (try simp [-cB, *]))
      | (refine AOps.lendC rfl (isP_ok w _) rfl (by simp) rfl rfl (by simp) rfl ?_ <;> (try simp [-cB, *]))
      | (refine AOps.pureG rfl (fun h => wrap_ok _) rfl (by first | rfl | (simp; rfl)) (by simp) (by simp) rfl ?_ <;> (try simp [-cB, *]))
      | (refine AOps.pureG rfl (fun h => isP_ok w _) rfl (by first | rfl | (simp; rfl)) (by simp) (by simp) rfl ?_ <;> (try simp [-cB, *]))
      | (with_reducible intro _))
    all_goals first | omega | contradiction | grind
end Go.Ab

namespace Go.Ab
open Go.Proofs
def binR (w : GWorld) (op a b : Int) : Int × Int :=
  if op = 1 then (tru (decide (wrapM a ≠ 0) || decide (wrapM b ≠ 0)), 0)
  else if op = 2 then (tru (decide (wrapM a ≠ 0) && decide (wrapM b ≠ 0)), 0)
  else if op = 3 then (tru (decide (wrapM a = wrapM b)), 0)
  else if op = 4 then (tru (decide (wrapM a ≠ wrapM b)), 0)
  else if op = 5 then (tru (decide (wrapM a < wrapM b)), 0)
  else if op = 6 then (tru (decide (wrapM a ≤ wrapM b)), 0)
  else if op = 7 then (tru (decide (wrapM b < wrapM a)), 0)
  else if op = 8 then (tru (decide (wrapM b ≤ wrapM a)), 0)
  else if op = 9 then (if isT w.Parent.length (wrapM a) then (tru (decide (atI w.Parent (wrapM a) = wrapM b)), 0) else (0, 11))
  else if op = 10 then (addM (wrapM a) (wrapM b), 0)
  else if op = 11 then (subM (wrapM a) (wrapM b), 0)
  else if op = 12 then (mulM (wrapM a) (wrapM b), 0)
  else if op = 13 then divM (wrapM a) (wrapM b)
  else if op = 14 then modM (wrapM a) (wrapM b)
  else (0, 16)
end Go.Ab

namespace Go.Ab
structure XC where
  B : GBook
  E : GEnv
  M : Int
structure XS where
  W : GWorld
  Out : ByteArray
  Wr : Bool
  Fuel : Int
  Dp : Int
  Ls : List Int
inductive OC where
  | nrm (n : Int)
  | ret (n : Int)
  | thr (e : Int)
  | over
abbrev inL {α : Type} (l : List α) (i : Int) : Prop := 0 ≤ i ∧ i < l.length
abbrev sml {α : Type} (l : List α) : Prop := l.length ≤ 1000000
def getI (l : List Int) (i : Int) : Int := l[i.toNat]?.getD 0
def okW (c : XC) (w : GWorld) : Bool := rightB c.B.Tables w && decide (0 ≤ w.Seed ∧ w.Seed < 18446744073709551616)
def digT (n : Nat) : ByteArray := if n < 10 then ⟨#[UInt8.ofNat (48 + n)]⟩ else digT (n / 10) ++ ⟨#[UInt8.ofNat (48 + n % 10)]⟩
def numT (n : Int) : ByteArray := if n < 0 then ⟨#[45]⟩ ++ digT n.natAbs else digT n.natAbs
def textT (t : GTables) (i : Int) : ByteArray := if i < 0 ∨ (t.Texts.length : Int) ≤ i then ⟨#[]⟩ else t.Texts[i.toNat]?.getD ⟨#[]⟩
def noneT : ByteArray := ⟨#[110, 111, 116, 104, 105, 110, 103]⟩
def titleT (t : GTables) (x : Int) : ByteArray := if x < 1 ∨ (t.Things.length : Int) ≤ x then noneT else textT t (thingAt t x).Title
def hasF (w : GWorld) (x : Int) (f : Nat) : Bool := isT w.Parent.length x && decide (getI w.Flags x / (2 ^ f : Nat) % 2 = 1)
def listedM (w : GWorld) (x : Int) : List Int := (kidsM w.tree x).filter fun y => !hasF w y 3 && decide (y ≠ 1)
def rowT : List ByteArray → ByteArray
  | [] => noneT
  | [a] => a
  | [a, b] => a ++ ⟨#[32, 97, 110, 100, 32]⟩ ++ b
  | a :: l => a ++ ⟨#[44, 32]⟩ ++ rowT l
def listM (t : GTables) (w : GWorld) (x : Int) : ByteArray := rowT ((listedM w x).map (titleT t))
def showsM (w : GWorld) (x : Int) : Bool := !hasF w x 2 || hasF w x 1
def reachV (w : GWorld) : Nat → Int → List Int
  | 0, _ => []
  | d + 1, x => (kidsM w.tree x).flatMap fun y => if hasF w y 3 then [] else y :: (if showsM w y then reachV w d y else [])
def hereM (w : GWorld) : Int := topM w.tree 1
def litM (w : GWorld) : Bool := hasF w (hereM w) 0 || (reachV w w.Parent.length (hereM w)).any fun y => hasF w y 0
def lookM (t : GTables) (w : GWorld) : ByteArray :=
  if litM w then titleT t (hereM w) ++ ⟨#[10]⟩ ++ (if (thingAt t (hereM w)).Text ≠ -1 then textT t (thingAt t (hereM w)).Text ++ ⟨#[10]⟩ else ⟨#[]⟩) ++ (if listedM w (hereM w) ≠ [] then ⟨#[89, 111, 117, 32, 115, 101, 101, 32]⟩ ++ listM t w (hereM w) ++ ⟨#[46, 10]⟩ else ⟨#[]⟩)
  else ⟨#[73, 116, 32, 105, 115, 32, 100, 97, 114, 107, 46, 10]⟩
def hasR (w : GWorld) (x f : Int) : Int × Int := (if askedM w x f = 0 then tru (hasF w x f.toNat) else 0, askedM w x f)
def flagR (w : GWorld) (x f : Int) (on : Bool) : GWorld × Int :=
  if askedM w x f = 0 then (if hasF w x f.toNat = on then w else { w with Flags := w.Flags.set x.toNat (if on then getI w.Flags x + (2 ^ f.toNat : Nat) else getI w.Flags x - (2 ^ f.toNat : Nat)) }, 0) else (w, askedM w x f)
def roomT (t : GTables) (x : Int) : Bool := decide (1 ≤ x) && decide (x < t.Things.length) && (thingAt t x).Room
def homeE (t : GTables) (p : GWorld × Int) : GWorld × Int := if p.2 = 0 ∧ roomT t (topM p.1.tree 1) = false then (p.1, 12) else p
def moveO (t : GTables) (w : GWorld) (x to : Int) : GWorld × Int := if roomT t x = true then (w, 12) else homeE t (moveR w x to)
def removeO (t : GTables) (w : GWorld) (x : Int) : GWorld × Int := if roomT t x = true ∨ x = 1 then (w, 12) else homeE t (removeR w x)
def outX (σ : XS) (s : ByteArray) : Option (XS × OC) := if σ.Out.size + s.size ≤ 140737488355328 then some ({ σ with Out := σ.Out ++ s, Wr := true }, .nrm 0) else none
def costX (c : XC) (σ : XS) : Option (XS × OC) := if 0 ≤ σ.Fuel ∧ σ.Fuel ≤ 1099511627776 then if c.M < σ.Fuel + 1 then some (σ, .thr 19) else some ({ σ with Fuel := σ.Fuel + 1 }, .nrm 0) else none
def pairO {α : Type} (w : α) (p : Int × Int) : α × OC := if p.2 = 0 then (w, .nrm p.1) else (w, .thr p.2)
def worldO (w : GWorld) (p : GWorld × Int) : GWorld × OC := if p.2 = 0 then (p.1, .nrm 0) else (w, .thr p.2)
def valW (c : XC) (w : GWorld) (k n : Int) (a : List Int) : Option (GWorld × OC) :=
  if okW c w = false then none
  else if k = 1 then some (w, .nrm n)
  else if k = 14 then (if inL w.Globals n then some (w, .nrm (getI w.Globals n)) else none)
  else if k = 12 then some (pairO w (selfR w c.E n))
  else if a.length = 0 then none
  else if k = 4 then some (w, .nrm (negM (getI a 0)))
  else if k = 5 then some (w, .nrm (tru (decide (wrapM (getI a 0) = 0))))
  else if k = 16 then some (pairO w (hasR w (getI a 0) n))
  else if k = 17 then some (pairO w (propR c.B.Tables w (getI a 0) n))
  else if k = 10 then some (pairO w (treeR w n (getI a 0)))
  else if k = 11 then (if wrapM (getI a 0) < 1 then some (w, .thr 1) else some ({ w with Seed := (mixB w.Seed (wrapM (getI a 0))).2 }, .nrm ((mixB w.Seed (wrapM (getI a 0))).1 + 1)))
  else if a.length = 1 then none
  else if k = 6 then some (pairO w (binR w n (getI a 0) (getI a 1)))
  else none
def ownA (e : GExpr) : Int := if e.Kind = 6 ∨ e.Kind = 10 ∨ e.Kind = 12 then e.Op else e.Num
def valX (c : XC) (σ : XS) (e : GExpr) (a : List Int) : Option (XS × OC) :=
  if e.Kind = 15 then (if inL σ.Ls e.Num then some (σ, .nrm (getI σ.Ls e.Num)) else none)
  else (valW c σ.W e.Kind (ownA e) a).map fun p => ({ σ with W := p.1 }, p.2)
def chgW (c : XC) (w : GWorld) (k num : Int) (a : List Int) : Option (GWorld × OC) :=
  if okW c w = false then none
  else if k = 13 then some (w, .over)
  else if k = 14 then some ({ w with Over := 1 }, .over)
  else if k = 15 then some ({ w with Over := 2 }, .over)
  else if k = 18 then (if inL w.Timers num then some ({ w with Timers := w.Timers.set num.toNat 0 }, .nrm 0) else none)
  else if a.length = 0 then none
  else if k = 19 then some (w, .nrm 0)
  else if k = 5 then some (worldO w (flagR w (getI a 0) num true))
  else if k = 6 then some (worldO w (flagR w (getI a 0) num false))
  else if k = 8 then some (worldO w (removeO c.B.Tables w (getI a 0)))
  else if k = 16 then some ({ w with Score := addM w.Score (getI a 0) }, .nrm 0)
  else if k = 17 then (if inL w.Timers num then some ({ w with Timers := w.Timers.set num.toNat (if getI a 0 < 1 then 1 else getI a 0) }, .nrm 0) else none)
  else if k = 20 then (if getI a 0 < 1 ∨ 12 < getI a 0 then some (w, .thr 5) else some ({ w with Go := getI a 0 }, .nrm 0))
  else if k = 23 then (if inL w.Globals num then some ({ w with Globals := w.Globals.set num.toNat (getI a 0) }, .nrm 0) else none)
  else if a.length = 1 then none
  else if k = 4 then some (worldO w (putR c.B.Tables w (getI a 0) num (getI a 1)))
  else if k = 7 then some (worldO w (moveO c.B.Tables w (getI a 0) (getI a 1)))
  else none
def chgX (c : XC) (σ : XS) (k num : Int) (a : List Int) : Option (XS × OC) :=
  if k = 21 then (if okW c σ.W = true then outX σ (lookM c.B.Tables σ.W) else none)
  else if k = 22 then (if okW c σ.W = true ∧ 0 < a.length then outX σ (listM c.B.Tables σ.W (getI a 0)) else none)
  else (chgW c σ.W k num a).map fun p => ({ σ with W := p.1 }, p.2)
def wrapO (p : XS × OC) : XS × OC := match p.2 with
  | .nrm n => (p.1, .nrm (wrapM n))
  | _ => p
mutual
def askX (c : XC) : Nat → XS → GExpr → Option (XS × OC)
  | 0, _, _ => none
  | g + 1, σ, e =>
    if e.Kind = 6 ∧ (e.Op = 1 ∨ e.Op = 2) then
      match e.Args with
      | x :: y :: _ => match askX c g σ x with
        | some (σ1, .nrm l) => if decide (l ≠ 0) = decide (e.Op = 1) then some (σ1, .nrm (tru (decide (l ≠ 0)))) else match askX c g σ1 y with
          | some (σ2, .nrm r) => some (σ2, .nrm (tru (decide (r ≠ 0))))
          | r => r
        | r => r
      | _ => none
    else if ¬ sml e.Args then none else match asksX c g σ e.Args with
      | some (σ1, .inl a) => if e.Kind = 18 then (if inL c.B.Tables.Funcs e.Num then (callX c g σ1 (getI c.B.Tables.Funcs e.Num) a).map wrapO else none) else (valX c σ1 e a).map wrapO
      | some (σ1, .inr o) => some (σ1, o)
      | none => none
def asksX (c : XC) : Nat → XS → List GExpr → Option (XS × (List Int ⊕ OC))
  | 0, _, _ => none
  | _ + 1, σ, [] => some (σ, .inl [])
  | g + 1, σ, e :: l => match askX c g σ e with
    | some (σ1, .nrm n) => match asksX c g σ1 l with
      | some (σ2, .inl a) => some (σ2, .inl (n :: a))
      | r => r
    | some (σ1, o) => some (σ1, .inr o)
    | none => none
def callX (c : XC) : Nat → XS → Int → List Int → Option (XS × OC)
  | 0, _, _, _ => none
  | g + 1, σ, r, a =>
    if σ.Dp < 0 then none else if 32 ≤ σ.Dp then some (σ, .thr 17) else
    if inL c.B.Tables.Locals r ∧ inL c.B.Routines r ∧ (a.length : Int) ≤ getI c.B.Tables.Locals r ∧ getI c.B.Tables.Locals r ≤ 1000 ∧ sml (c.B.Routines[r.toNat]?.getD []) then
      match blockX c g { σ with Dp := σ.Dp + 1, Ls := a.map wrapM ++ List.replicate ((getI c.B.Tables.Locals r).toNat - a.length) 0 } (c.B.Routines[r.toNat]?.getD []) with
      | some (σ1, o) => some ({ σ1 with Dp := σ1.Dp - 1, Ls := σ.Ls }, match o with | .nrm _ => .nrm 0 | .ret n => .nrm n | o => o)
      | none => none
    else none
def blockX (c : XC) : Nat → XS → List GStmt → Option (XS × OC)
  | 0, _, _ => none
  | _ + 1, σ, [] => some (σ, .nrm 0)
  | g + 1, σ, x :: l => match stmtX c g σ x with
    | some (σ1, .nrm _) => blockX c g σ1 l
    | r => r
def stmtX (c : XC) : Nat → XS → GStmt → Option (XS × OC)
  | 0, _, _ => none
  | g + 1, σ, x =>
    if x.Kind = 10 then (if sml x.Body then whileX c g σ x else none) else
    match costX c σ with
    | some (σ, .nrm _) => if ¬ sml x.Args then none else if x.Kind = 1 then saysX c g σ x.Args else match asksX c g σ x.Args with
      | some (σ1, .inl a) => doesX c g σ1 x a
      | some (σ1, .inr o) => some (σ1, o)
      | none => none
    | r => r
def saysX (c : XC) : Nat → XS → List GExpr → Option (XS × OC)
  | 0, _, _ => none
  | _ + 1, σ, [] => some (σ, .nrm 0)
  | g + 1, σ, e :: l =>
    match sayX c g σ e with
    | some (σ1, .nrm _) => saysX c g σ1 l
    | r => r
def sayX (c : XC) : Nat → XS → GExpr → Option (XS × OC)
  | 0, _, _ => none
  | g + 1, σ, e =>
    if e.Kind = 19 then outX σ (textT c.B.Tables e.Num)
    else if e.Kind = 13 then match e.Args with
      | x :: _ => match askX c g σ x with
        | some (σ1, .nrm n) => outX σ1 (titleT c.B.Tables n)
        | r => r
      | [] => none
    else match askX c g σ e with
    | some (σ1, .nrm n) => outX σ1 (numT n)
    | r => r
def whileX (c : XC) : Nat → XS → GStmt → Option (XS × OC)
  | 0, _, _ => none
  | g + 1, σ, x =>
    match costX c σ with
    | some (σ, .nrm _) => match x.Args with
      | e :: _ => match askX c g σ e with
        | some (σ1, .nrm n) => if n = 0 then some (σ1, .nrm 0) else match blockX c g σ1 x.Body with
          | some (σ2, .nrm _) => whileX c g σ2 x
          | r => r
        | r => r
      | [] => none
    | r => r
def eachX (c : XC) : Nat → XS → GStmt → Option (XS × OC)
  | 0, _, _ => none
  | g + 1, σ, x =>
    if inL σ.Ls x.Num ∧ inL σ.Ls (x.Num + 1) ∧ x.Num ≤ 1000000 ∧ okW c σ.W = true then
      if getI σ.Ls x.Num = 0 then some (σ, .nrm 0) else
      match costX c σ with
      | some (σ, .nrm _) =>
        if (treeR σ.W 3 (getI σ.Ls x.Num)).2 ≠ 0 then some (σ, .thr (treeR σ.W 3 (getI σ.Ls x.Num)).2) else
        match blockX c g { σ with Ls := σ.Ls.set (x.Num + 1).toNat (treeR σ.W 3 (getI σ.Ls x.Num)).1 } x.Body with
        | some (σ2, .nrm _) => eachX c g { σ2 with Ls := σ2.Ls.set x.Num.toNat (getI σ2.Ls (x.Num + 1)) } x
        | r => r
      | r => r
    else none
def doesX (c : XC) : Nat → XS → GStmt → List Int → Option (XS × OC)
  | 0, _, _, _ => none
  | g + 1, σ, x, a =>
    if x.Kind = 2 ∨ x.Kind = 3 then (if 0 < a.length ∧ inL σ.Ls x.Num then some ({ σ with Ls := σ.Ls.set x.Num.toNat (getI a 0) }, .nrm 0) else none)
    else if x.Kind = 9 then (if 0 < a.length ∧ sml x.Body ∧ sml x.Else then blockX c g σ (if getI a 0 ≠ 0 then x.Body else x.Else) else none)
    else if x.Kind = 11 then (if 0 < a.length ∧ okW c σ.W = true ∧ inL σ.Ls x.Num ∧ sml x.Body then
        if (treeR σ.W 2 (getI a 0)).2 ≠ 0 then some (σ, .thr (treeR σ.W 2 (getI a 0)).2) else eachX c g { σ with Ls := σ.Ls.set x.Num.toNat (treeR σ.W 2 (getI a 0)).1 } x
      else none)
    else if x.Kind = 12 then (if 0 < a.length then some (σ, .ret (getI a 0)) else none)
    else chgX c σ x.Kind x.Num a
end
end Go.Ab

namespace Go.Ab
structure MS where
  W : GWorld
  Out : ByteArray
  Fuel : Int
inductive Oc where
  | ret (n : Int) (σ : MS)
  | thr (e : Int) (σ : MS)
  | over (σ : MS)
inductive Ev where
  | ok (S L : List Int) (σ : MS)
  | thr (e : Int)
  | over (σ : MS)
inductive Nx where
  | go (r : List GIns) (S L : List Int) (σ : MS) (k : Nat)
  | stop (o : Oc)
  | call (f : Int) (a S : List Int)
  | stuck
def after : List GIns → Int → Option (List GIns)
  | [], _ => none
  | i :: r, n => if i.Op = 38 ∧ i.Arg = n then some r else after r n
structure Mach where
  J : GIns → List Int → List Int → MS → Option Ev
  fn : Int → Int
  pa : Int → Nat
  lo : Int → List Int → List Int
def Nx.to (S L : List Int) (σ : MS) : Option (List GIns) → Nx
  | some r => .go r S L σ 1
  | none => .stuck
def Nx.zero (r : List GIns) (L : List Int) (σ : MS) (t : Option (List GIns)) : List Int → Nx
  | v :: S => if wrapM v = 0 then Nx.to S L σ t else .go r S L σ 1
  | [] => .stuck
def Nx.back (σ : MS) : List Int → Nx
  | v :: _ => .stop (.ret v σ)
  | [] => .stuck
def Nx.ev (r : List GIns) (σ : MS) : Option Ev → Nx
  | some (.ok S' L' σ') => .go r S' L' σ' 1
  | some (.thr e) => .stop (.thr e σ)
  | some (.over σ') => .stop (.over σ')
  | none => .stuck
def nx (m : Mach) (d : Nat) (l : List GIns) (i : GIns) (r : List GIns) (S L : List Int) (σ : MS) : Nx :=
  if i.Op = 38 then .go r S L σ 0
  else if i.Op = 24 then Nx.to S L σ (after l i.Arg)
  else if i.Op = 25 then Nx.zero r L σ (after l i.Arg) S
  else if i.Op = 27 then Nx.back σ S
  else if i.Op = 26 then (if 32 ≤ d then (if 0 ≤ m.fn i.Arg then .stop (.thr 17 σ) else .stuck) else if m.pa (m.fn i.Arg) ≤ S.length then .call (m.fn i.Arg) (S.take (m.pa (m.fn i.Arg))).reverse (S.drop (m.pa (m.fn i.Arg))) else .stuck)
  else Nx.ev r σ (m.J i S L σ)
def flat (op : Int) : Prop := op ≠ 38 ∧ op ≠ 24 ∧ op ≠ 25 ∧ op ≠ 27 ∧ op ≠ 26
def run (m : Mach) (P : Int → List GIns) : Nat → Nat → List GIns → List GIns → List Int → List Int → MS → Option (Oc × Nat)
  | 0, _, _, _, _, _, _ => none
  | _ + 1, _, _, [], _, _, _ => none
  | g + 1, d, l, i :: r, S, L, σ => match nx m d l i r S L σ with
    | .go r' S' L' σ' k => (run m P g d l r' S' L' σ').map fun x => (x.1, x.2 + k)
    | .stop o => some (o, 1)
    | .call f a S' => match run m P g (d + 1) (P f) (P f) [] (m.lo f a) σ with
      | some (.ret v σ', k) => (run m P g d l r (wrapM v :: S') L σ').map fun x => (x.1, x.2 + k + 1)
      | some (o, k) => some (o, k + 1)
      | none => none
    | .stuck => none
def Sim (m : Mach) (P P' : Int → List GIns) (l r l' r' : List GIns) (g : Nat) : Prop :=
  ∀ d S L σ o n, run m P g d l r S L σ = some (o, n) → ∃ g' n', n' ≤ n ∧ run m P' g' d l' r' S L σ = some (o, n')
end Go.Ab

namespace Go.Ab
inductive RP (p old new q : List GIns) : List GIns → List GIns → Prop where
  | inp (p1 p2 : List GIns) : p = p1 ++ p2 → RP p old new q (p2 ++ (old ++ q)) (p2 ++ (new ++ q))
  | inq (q1 q2 : List GIns) : q = q1 ++ q2 → RP p old new q q2 q2
structure All (m : Mach) (P P' : Int → List GIns) (p old new q : List GIns) (g : Nat) : Prop where
  same : ∀ l r, Sim m P P' l r l r g
  rel : ∀ r r', RP p old new q r r' → Sim m P P' (p ++ (old ++ q)) r (p ++ (new ++ q)) r' g
end Go.Ab

namespace Go.Ab
def opA (r : List GIns) (k : Nat) : Int := (r[k]?.map GIns.Op).getD 0
def argA (r : List GIns) (k : Nat) : Int := (r[k]?.map GIns.Arg).getD 0
def notM (n : Int) : Int := tru (decide (wrapM n = 0))
def pushI (n : Int) : List GIns := [⟨1, wrapM n⟩]
def reckM (r : List GIns) : Option (Nat × List GIns) :=
  if opA r 0 = 1 ∧ opA r 1 = 1 ∧ opA r 2 = 8 ∧ argA r 2 ≠ 9 ∧ (binR GWorld.zero (argA r 2) (argA r 0) (argA r 1)).2 = 0 then some (3, pushI (binR GWorld.zero (argA r 2) (argA r 0) (argA r 1)).1)
  else if opA r 0 ≠ 1 then none
  else if opA r 1 = 9 then some (2, pushI (negM (argA r 0)))
  else if opA r 1 = 10 then some (2, pushI (notM (argA r 0)))
  else if opA r 1 = 11 then some (2, pushI (1 - notM (argA r 0)))
  else none
def knownM (r : List GIns) : Option (Nat × List GIns) :=
  if opA r 0 = 10 ∧ opA r 1 = 10 ∧ opA r 2 = 25 then some (2, [])
  else if opA r 0 = 1 ∧ opA r 1 = 25 then (if wrapM (argA r 0) = 0 then some (2, [⟨24, argA r 1⟩]) else some (2, []))
  else if opA r 0 = 1 ∧ opA r 1 = 2 then some (2, [])
  else none
def isLab (i : GIns) : Bool := decide (i.Op = 38)
def endsOp (o : Int) : Prop := o = 24 ∨ o = 27 ∨ o = 28 ∨ o = 29 ∨ o = 30
instance (o : Int) : Decidable (endsOp o) := by unfold endsOp; infer_instance
def deadN (r : List GIns) : Nat := (r.takeWhile fun i => !isLab i).length
def askedL (l : List GIns) (n : Int) : Bool := l.any fun i => (decide (i.Op = 24) || decide (i.Op = 25)) && decide (i.Arg = n)
def farM (l r : List GIns) : Option (List GIns) :=
  match after l (argA r 0) with
  | none => none
  | some a => if opA (a.dropWhile isLab) 0 = 24 ∧ argA (a.dropWhile isLab) 0 ≠ argA r 0 then some [⟨opA r 0, argA (a.dropWhile isLab) 0⟩] else none
def betterR (l r : List GIns) : Option (Nat × Nat × List GIns) :=
  match reckM r with
  | some (n, x) => some (0, n, x)
  | none => match knownM r with
    | some (n, x) => some (0, n, x)
    | none =>
      if endsOp (opA r 0) ∧ 0 < deadN r.tail then some (1, deadN r.tail, [])
      else if opA r 0 = 24 ∨ opA r 0 = 25 then
        (if opA r 0 = 24 ∧ (r.tail.takeWhile isLab).any (fun i => decide (i.Arg = argA r 0)) = true then some (0, 1, [])
         else (farM l r).map fun x => (0, 1, x))
      else if opA r 0 = 38 ∧ askedL l (argA r 0) = false then some (0, 1, [])
      else none
def swapM (l : List GIns) (k n : Nat) (x : List GIns) : List GIns := l.take k ++ (x ++ l.drop (k + n))
def betterM (l : List GIns) (k : Nat) : Option (List GIns) := (betterR l (l.drop k)).map fun y => swapM l (k + y.1) y.2.1 y.2.2
def onceM (l : List GIns) : Nat → Nat → Option (List GIns)
  | 0, _ => none
  | n + 1, k => match betterM l k with
    | some x => some x
    | none => onceM l n (k + 1)
def allM : Nat → List GIns → List GIns
  | 0, l => l
  | n + 1, l => match onceM l l.length 0 with
    | some x => allM n x
    | none => l
def peepM (l : List GIns) : List GIns := allM (16 * l.length) l
structure Mach.Std (m : Mach) : Prop where
  push : ∀ a S L σ, m.J ⟨1, a⟩ S L σ = some (.ok (wrapM a :: S) L σ)
  pop : ∀ x v S L σ, m.J ⟨2, x⟩ (v :: S) L σ = some (.ok S L σ)
  bin : ∀ o a b S L σ, o ≠ 9 → (binR GWorld.zero o a b).2 = 0 → m.J ⟨8, o⟩ (wrapM b :: wrapM a :: S) L σ = some (.ok (wrapM (binR GWorld.zero o a b).1 :: S) L σ)
  neg : ∀ x a S L σ, m.J ⟨9, x⟩ (wrapM a :: S) L σ = some (.ok (wrapM (negM a) :: S) L σ)
  no : ∀ x v S L σ, m.J ⟨10, x⟩ (v :: S) L σ = some (.ok (notM v :: S) L σ)
  no0 : ∀ x L σ, m.J ⟨10, x⟩ [] L σ = none
  test : ∀ x a S L σ, m.J ⟨11, x⟩ (wrapM a :: S) L σ = some (.ok (tru (decide (wrapM a ≠ 0)) :: S) L σ)
theorem wrap_wrap a : wrapM (wrapM a) = wrapM a := by simp [wrapM_eq]
def labsL (l : List GIns) : List Int := (l.filter isLab).map GIns.Arg
theorem labsL_app a b : labsL (a ++ b) = labsL a ++ labsL b := by simp [labsL]
theorem mem_labsL {l} {n} : n ∈ labsL l ↔ ∃ i ∈ l, i.Op = 38 ∧ i.Arg = n := by
  simp  [labsL, isLab]
  grind
structure Mach.Ok (m : Mach) : Prop extends m.Std where
  stops : ∀ x S L σ S' L' σ', x = 28 ∨ x = 29 ∨ x = 30 → ∀ a, m.J ⟨x, a⟩ S L σ ≠ some (.ok S' L' σ')
theorem takeWhile_all {α : Type} f : ∀ (l : List α), ∀ x ∈ l.takeWhile f, f x = true
  | [], x, h => by cases h
  | y :: l, x, h => by
    rw [List.takeWhile_cons] at h
    split at h
    · rename_i hy
      rcases List.mem_cons.1 h with rfl | h
      · exact hy
      · exact takeWhile_all f l x h
    grind
theorem take_while_len {α : Type} f (l : List α) : l = l.takeWhile f ++ l.drop (l.takeWhile f).length := by
  grind [List.takeWhile_append_dropWhile]
end Go.Ab

namespace Go.Ab
theorem onceM_some {l l' : List GIns} : ∀ (n k : Nat), onceM l n k = some l' → ∃ j, k ≤ j ∧ j < k + n ∧ betterM l j = some l'
  | 0, k, h => by cases h
  | n + 1, k, h => by
    rw [onceM] at h
    split at h
    · rename_i x hx
      exact ⟨k, Nat.le_refl _, by omega, by rw [hx]; exact h⟩
    · obtain ⟨j, h1, h2, h3⟩ := onceM_some n (k + 1) h
      exact ⟨j, by omega, by omega, h3⟩
end Go.Ab

namespace Go.Ab
def bytesM (n : Int) : Nat := if n = 0 then 0 else if -128 ≤ n ∧ n ≤ 127 then 1 else 2
def hasA (o : Int) : Bool := [1, 3, 4, 5, 6, 7, 8, 12, 13, 14, 15, 16, 19, 21, 24, 25, 26, 32, 33, 38].contains o
def argB (n : Int) : Nat → List Int
  | 0 => []
  | 1 => [n % 256]
  | _ => [n / 256 % 256, n % 256]
def encK (o n : Int) (k : Nat) : List Int := (4 * o + k) :: argB n k
def argE (i : GIns) : Int := if hasA i.Op then wrapM i.Arg else 0
def encM (i : GIns) : List Int := if i.Op < 1 ∨ 38 ≤ i.Op then [] else encK i.Op (argE i) (bytesM (argE i))
theorem argB_len (n : Int) (k : Nat) (hk : k ≤ 2) : (argB n k).length = k := by
  match k, hk with
  | 0, _ => rfl
  | 1, _ => rfl
  | 2, _ => rfl
theorem bytesM_le (n : Int) : bytesM n ≤ 2 := by unfold bytesM; split; omega; split <;> omega
def jmp (o : Int) : Bool := decide (o = 24) || decide (o = 25)
abbrev Zl := List (GIns × Nat)
def lenP (p : GIns × Nat) : Nat := if p.1.Op = 38 then 0 else if jmp p.1.Op then 1 + p.2 else (encM p.1).length
def lenZ (z : Zl) : Nat := (z.map lenP).sum
def labAt : Zl → Int → Option Nat
  | [], _ => none
  | p :: z, n => if p.1.Op = 38 ∧ p.1.Arg = n then some 0 else (labAt z n).map (lenP p + ·)
def farZ (w : Zl) (n : Int) (at_ : Nat) : Int := ((labAt w n).getD 0 : Nat) - (at_ : Int)
def codeP (w : Zl) (k : Nat) (p : GIns × Nat) : List Int := if p.1.Op = 38 then [] else if jmp p.1.Op then encK p.1.Op (farZ w p.1.Arg (k + lenP p)) p.2 else encM p.1
def codeZ (w : Zl) : Nat → Zl → List Int
  | _, [] => []
  | k, p :: z => codeP w k p ++ codeZ w (k + lenP p) z
theorem codeP_len (w : Zl) (k : Nat) (p : GIns × Nat) (h : p.2 ≤ 2) : (codeP w k p).length = lenP p := by
  unfold codeP lenP
  split
  · rfl
  · split
    · simp only [encK, List.length_cons, argB_len _ _ h]; omega
    · rfl
theorem codeZ_len (w : Zl) : ∀ (k : Nat) (z : Zl), (∀ p ∈ z, p.2 ≤ 2) → (codeZ w k z).length = lenZ z
  | k, [], _ => rfl
  | k, p :: z, h => by
    rw [codeZ, List.length_append, codeP_len w k p (h p (by simp)), codeZ_len w _ z (fun q hq => h q (by simp [hq]))]
    simp [lenZ]
theorem lenZ_cons (p : GIns × Nat) (b : Zl) : lenZ (p :: b) = lenP p + lenZ b := by simp [lenZ]
end Go.Ab

namespace Go.Ab
end Go.Ab

namespace Go.Ab
def int16B (n : Int) : Bool := decide (-32768 ≤ n) && decide (n ≤ 32767)
def wrongI (l a : List GIns) (x : GIns) : Int :=
  if jmp x.Op = true ∧ (labsL l).contains x.Arg = false then 11
  else if x.Op = 38 ∧ (labsL a).contains x.Arg = true then 10
  else if x.Op = 38 ∨ jmp x.Op = true then 0
  else if x.Op < 1 ∨ 38 < x.Op ∨ (hasA x.Op = false ∧ x.Arg ≠ 0) ∨ int16B x.Arg = false then 16
  else 0
def wrongF (l : List GIns) : List GIns → List GIns → Int
  | _, [] => 0
  | a, x :: r => if wrongI l a x = 0 then wrongF l (a ++ [x]) r else wrongI l a x
def wrongM (l : List GIns) : Int := wrongF l [] l
def fitsM (n : Int) : Nat := if int16B n then bytesM n else 3
def growI (z : Zl) (i : Nat) : Option Zl :=
  match z[i]? with
  | some p => if jmp p.1.Op = true ∧ p.2 < fitsM (farZ z p.1.Arg (lenZ (z.take (i + 1)))) then some (z.set i (p.1, fitsM (farZ z p.1.Arg (lenZ (z.take (i + 1)))))) else none
  | none => none
def passM : Nat → Nat → Zl → Bool → Zl × Bool
  | 0, _, z, b => (z, b)
  | n + 1, i, z, b => match growI z i with
    | some z' => passM n (i + 1) z' true
    | none => passM n (i + 1) z b
def sizesM : Nat → Zl → Option Zl
  | 0, _ => none
  | g + 1, z => if (passM z.length 0 z false).2 = true then sizesM g (passM z.length 0 z false).1 else some (passM z.length 0 z false).1
def zipZ (l : List GIns) : Zl := l.map fun i => (i, 0)
def asmM (l : List GIns) : List Int × Int :=
  if wrongM l ≠ 0 then ([], wrongM l)
  else match sizesM (3 * l.length + 1) (zipZ l) with
    | some z => if 65536 < lenZ z then ([], 3) else if z.any (fun p => jmp p.1.Op && decide (p.2 = 3)) = true then ([], 3) else (codeZ z 0 z, 0)
    | none => ([], 3)
theorem growI_fst {z z' : Zl} {i : Nat} (h : growI z i = some z') : z'.map Prod.fst = z.map Prod.fst := by
  unfold growI at h
  split at h
  · rename_i p hp
    split at h
    · simp only [Option.some.injEq] at h
      subst h
      rw [List.map_set]
      refine List.ext_getElem? fun k => ?_
      rw [List.getElem?_set]
      split
      · rename_i hk; subst hk
        have hi := (List.getElem?_eq_some_iff.1 hp).1
        simp only [List.length_map, hi, if_true, List.getElem?_map, hp, Option.map_some]
      · rfl
    · cases h
  · cases h
def szOk (p : GIns × Nat) : Prop := p.2 ≤ 3 ∧ (jmp p.1.Op = false → p.2 ≤ 2)
def szZ (z : Zl) : Nat := (z.map Prod.snd).sum
theorem fitsM_le (n : Int) : fitsM n ≤ 3 := by unfold fitsM; split; have := bytesM_le n; omega; omega
theorem set_sum : ∀ (l : List Nat) (i : Nat) (x : Nat) (h : i < l.length), (l.set i x).sum + l[i] = l.sum + x
  | y :: l, 0, x, _ => by simp; omega
  | y :: l, i + 1, x, h => by
    have := set_sum l i x (by simpa using h)
    simp only [List.set_cons_succ, List.sum_cons, List.getElem_cons_succ]; omega
theorem growI_sz {z z' : Zl} {i : Nat} (h : growI z i = some z') (h3 : ∀ p ∈ z, szOk p) : szZ z < szZ z' ∧ ∀ p ∈ z', szOk p := by
  unfold growI at h
  split at h
  · rename_i p hp
    obtain ⟨hi, he⟩ := List.getElem?_eq_some_iff.1 hp
    split at h
    · rename_i hc
      simp only [Option.some.injEq] at h
      subst h
      refine ⟨?_, ?_⟩
      · unfold szZ
        rw [List.map_set]
        have := set_sum (z.map Prod.snd) i (fitsM (farZ z p.1.Arg (lenZ (z.take (i + 1))))) (by simpa using hi)
        simp only [List.getElem_map, he] at this
        have h7 := hc.2
        simp only at this ⊢
        omega
      · intro q hq
        rcases List.mem_or_eq_of_mem_set hq with hq | hq
        · exact h3 q hq
        · rw [hq]; exact ⟨fitsM_le _, fun hh => by rw [hc.1] at hh; cases hh⟩
    · cases h
  · cases h
theorem passM_ok : ∀ (n i : Nat) (z : Zl) (b : Bool), (∀ p ∈ z, szOk p) → (passM n i z b).1.map Prod.fst = z.map Prod.fst ∧ (∀ p ∈ (passM n i z b).1, szOk p) ∧ szZ z ≤ szZ (passM n i z b).1 ∧
    ((passM n i z b).2 = true → b = true ∨ szZ z < szZ (passM n i z b).1) ∧ ((passM n i z b).2 = false → b = false ∧ (passM n i z b).1 = z ∧ ∀ j, i ≤ j → j < i + n → growI z j = none)
  | 0, i, z, b, h3 => by
    refine ⟨rfl, h3, Nat.le_refl _, fun h => Or.inl h, fun h => ⟨h, rfl, fun j h1 h2 => by omega⟩⟩
  | n + 1, i, z, b, h3 => by
    rw [passM]
    cases hg : growI z i with
    | none =>
      obtain ⟨a1, a2, a3, a4, a5⟩ := passM_ok n (i + 1) z b h3
      refine ⟨a1, a2, a3, a4, fun h => ?_⟩
      obtain ⟨b1, b2, b3⟩ := a5 h
      refine ⟨b1, b2, fun j h1 h2 => ?_⟩
      by_cases e : j = i
      · rw [e]; exact hg
      · exact b3 j (by omega) (by omega)
    | some z' =>
      obtain ⟨s1, s2⟩ := growI_sz hg h3
      obtain ⟨a1, a2, a3, a4, a5⟩ := passM_ok n (i + 1) z' true s2
      refine ⟨a1.trans (growI_fst hg), a2, by simp only; omega, fun _ => Or.inr (by simp only; omega), fun h => ?_⟩
      have := (a5 h).1
      cases this
theorem szZ_le : ∀ (z : Zl), (∀ p ∈ z, szOk p) → szZ z ≤ 3 * z.length
  | [], _ => by simp [szZ]
  | p :: z, h => by
    have h1 := szZ_le z (fun q hq => h q (by simp [hq]))
    have h2 := (h p (by simp)).1
    simp only [szZ, List.map_cons, List.sum_cons, List.length_cons] at h1 ⊢
    omega
theorem sizesM_ok : ∀ (g : Nat) (z : Zl), (∀ p ∈ z, szOk p) → 3 * z.length < g + szZ z → ∃ z', sizesM g z = some z' ∧ z'.map Prod.fst = z.map Prod.fst ∧ (∀ p ∈ z', szOk p) ∧ ∀ j, growI z' j = none
  | 0, z, h3, hg => by
    have := szZ_le z h3
    omega
  | g + 1, z, h3, hg => by
    obtain ⟨a1, a2, a3, a4, a5⟩ := passM_ok z.length 0 z false h3
    have hl : (passM z.length 0 z false).1.length = z.length := by
      have := congrArg List.length a1
      simpa using this
    rw [sizesM]
    by_cases hb : (passM z.length 0 z false).2 = true
    · rw [if_pos hb]
      have h4 := (a4 hb).resolve_left (by simp)
      obtain ⟨z', b1, b2, b3, b4⟩ := sizesM_ok g (passM z.length 0 z false).1 a2 (by rw [hl]; omega)
      exact ⟨z', b1, b2.trans a1, b3, b4⟩
    · rw [if_neg hb]
      obtain ⟨_, b2, b3⟩ := a5 (by simpa using hb)
      refine ⟨_, rfl, a1, a2, fun j => ?_⟩
      rw [b2]
      by_cases hj : j < z.length
      · exact b3 j (by omega) (by omega)
      · unfold growI
        rw [List.getElem?_eq_none (by omega)]
theorem labAt_some : ∀ (z : Zl) (n : Int), n ∈ labsL (z.map Prod.fst) → (labAt z n).isSome
  | [], n, h => by simp [labsL] at h
  | p :: z, n, h => by
    rw [labAt]
    split
    · rfl
    · rename_i hp
      rw [Option.isSome_map]
      refine labAt_some z n ?_
      rw [mem_labsL] at h ⊢
      obtain ⟨i, h1, h2, h3⟩ := h
      rcases List.mem_cons.1 h1 with rfl | h1
      · exact (hp ⟨h2, h3⟩).elim
      · exact ⟨i, h1, h2, h3⟩
end Go.Ab

namespace Go.Ab
open Go.Proofs
@[simp] theorem GExpr.Args_mk (a b c : Int) (d : ByteArray) (l : List GExpr) : (GExpr.mk a b c d l).Args = l := rfl
@[simp] theorem GExpr.Kind_mk (a b c : Int) (d : ByteArray) (l : List GExpr) : (GExpr.mk a b c d l).Kind = a := rfl
@[simp] theorem GExpr.Op_mk (a b c : Int) (d : ByteArray) (l : List GExpr) : (GExpr.mk a b c d l).Op = b := rfl
@[simp] theorem GExpr.Num_mk (a b c : Int) (d : ByteArray) (l : List GExpr) : (GExpr.mk a b c d l).Num = c := rfl
@[simp] theorem GExpr.Name_mk (a b c : Int) (d : ByteArray) (l : List GExpr) : (GExpr.mk a b c d l).Name = d := rfl
theorem GExpr.lt_of_mem {e x : GExpr} (h : x ∈ e.Args) : SizeOf.sizeOf x < SizeOf.sizeOf e := by
  cases e with
  | mk a b c d l =>
    have := List.sizeOf_lt_of_mem (show x ∈ l from h)
    simp only [GExpr.mk.sizeOf_spec]
    omega
mutual
def fewM : GExpr → Int → Int
  | .mk _ _ _ _ l, m => fewsM l (m - 1)
def fewsM : List GExpr → Int → Int
  | [], m => m
  | x :: l, m => if m < 0 then m else fewsM l (fewM x m)
end
end Go.Ab

namespace Go.Ab
open Go.Proofs
mutual
def deepM : GExpr → Int → Int
  | .mk _ _ _ _ l, m => (if 1 < m then deepsM l (m - 1) 0 else 0) + 1
def deepsM : List GExpr → Int → Int → Int
  | [], _, n => n
  | x :: l, m, n => deepsM l m (if n < deepM x m then deepM x m else n)
end
theorem deepM_eq (e : GExpr) (m : Int) : deepM e m = (if 1 < m then deepsM e.Args (m - 1) 0 else 0) + 1 := by cases e; rw [deepM]; rfl
theorem deepsM_snoc (l : List GExpr) (x : GExpr) (m n : Int) : deepsM (l ++ [x]) m n = if deepsM l m n < deepM x m then deepM x m else deepsM l m n := by
  induction l generalizing n with
  | nil => simp only [List.nil_append, deepsM]; rfl
  | cons y l ih => simp only [List.cons_append, deepsM]; exact ih _
theorem deepM_le (e : GExpr) (m : Int) (hm : 1 ≤ m) : 1 ≤ deepM e m ∧ deepM e m ≤ m := by
  obtain ⟨n, hn⟩ : ∃ n, SizeOf.sizeOf e < n := ⟨_, Nat.lt_succ_self _⟩
  induction n generalizing e m with
  | zero => omega
  | succ n ih =>
    rw [deepM_eq]
    split
    · have : ∀ (l : List GExpr) (k : Int), (∀ x ∈ l, x ∈ e.Args) → 0 ≤ k → k ≤ m - 1 → 0 ≤ deepsM l (m - 1) k ∧ deepsM l (m - 1) k ≤ m - 1 := by
        intro l
        induction l with
        | nil => intro k _ h1 h2; rw [deepsM]; omega
        | cons x l ih' =>
          intro k hx h1 h2
          rw [deepsM]
          have := ih x (m - 1) (by omega) (by have := GExpr.lt_of_mem (hx x (by simp)); omega)
          apply ih' _ (fun y hy => hx y (by simp [hy]))
          · split <;> omega
          · split <;> omega
      have := this e.Args 0 (fun _ h => h) (by omega) (by omega)
      omega
    · omega
theorem deepsM_le (l : List GExpr) (m k : Int) (hm : 1 ≤ m) (h1 : 0 ≤ k) (h2 : k ≤ m) : 0 ≤ deepsM l m k ∧ deepsM l m k ≤ m := by
  induction l generalizing k with
  | nil => rw [deepsM]; omega
  | cons x l ih =>
    rw [deepsM]
    have := deepM_le x m hm
    apply ih
    · split <;> omega
    · split <;> omega
theorem deep_ok (e : GExpr) (he : e.wf) (m : Int) (hm : 1 ≤ m ∧ m ≤ 1000000000000) : Pure Tryz.prog 121 [.agg (e.enc.map .d), .d (.v (.int .i64 m))] (.d (.v (.int .i64 (deepM e m)))) := by
  obtain ⟨n, hn⟩ : ∃ n, SizeOf.sizeOf e < n := ⟨_, Nat.lt_succ_self _⟩
  induction n generalizing e m with
  | zero => omega
  | succ n ih =>
    have hw := (GExpr.wf_iff e).1 he
    have hlen : e.Args.length ≤ 2199023255488 := by omega
    have hsub : ∀ (i : Nat) (h : i < e.Args.length) m, 1 ≤ m ∧ m ≤ 1000000000000 → Pure Tryz.prog 121 [.agg ((e.Args[i]).enc.map .d), .d (.v (.int .i64 m))] (.d (.v (.int .i64 (deepM (e.Args[i]) m)))) := fun i h m hm =>
      ih _ (hw.2.2.2.2.2 _ (List.getElem_mem h)) m hm (by have := GExpr.lt_of_mem (List.getElem_mem h); omega)
    rw [deepM_eq]
    refine Pure.run Tryz.func121 rfl (by simp [Tryz.f121]) ?_; simp [Tryz.f121]
    generalize e.Args = l at *
    intro bs
    refine ⟨fun h1 => ?_, fun h1 => ?_⟩
    · refine AWP.loopS [1, 5, 12, 13, 14] l.length (fun i => [(5, .d (.v (.int .i64 (deepsM (l.take i) (m - 1) 0)))), (14, .d (.v (.int .i64 i)))]) (fun _ => []) (fun _ => True) (by rfl) (by simp [deepsM]) ?_
      intro i hi _
      rcases Nat.lt_or_eq_of_le hi with hlt | rfl
      · have hge : l[i]? = some l[i] := List.getElem?_eq_getElem hlt
        have htk : List.take (i + 1) l = List.take i l ++ [l[i]] := by rw [List.take_add_one, hge]; rfl
        have hS := hsub i hlt
        generalize hE : l[i] = x at *
        have a1 : inR .i64 (m - 1) := by rw [inR_i64]; omega
        have a2 : inR .i64 ((i : Int) + 1) := by rw [inR_i64]; omega
        have hsn := deepsM_snoc (l.take i) x (m - 1) 0
        rw [← htk] at hsn
        generalize hM : deepsM (l.take i) (m - 1) 0 = k at *
        simp [hlt, hge, hE]
        intro bs2
        refine ⟨a1, ?_⟩
        refine AOps.pureC rfl (hS (m - 1) ⟨by omega, by omega⟩) (by simp) rfl (by simp) rfl ?_
        simp [a2, hlt]
        refine ⟨fun h => ?_, fun h => ?_⟩
        · rw [hsn, if_pos h]
        · rw [hsn, if_neg (by omega)]
      · have := deepsM_le l (m - 1) 0 (by omega) (by omega) (by omega)
        simp [h1]
        rw [inR_i64]; omega
    · rw [if_neg (by omega)]; exact ⟨by rw [inR_i64]; omega, rfl⟩
def bareM (e : GExpr) (n : Int) (op num named : Bool) : Bool := decide ((e.Args.length : Int) = n) && (op || decide (e.Op = 0)) && (num || decide (e.Num = 0)) && (named || e.Name.toList.isEmpty)
theorem bare_ok (e : GExpr) (n : Int) (op num named : Bool) : Pure Tryz.prog 124 [.agg (e.enc.map .d), .d (.v (.int .i64 n)), .d (.v (.bool op)), .d (.v (.bool num)), .d (.v (.bool named))] (.d (.v (.bool (bareM e n op num named)))) := by
  refine Pure.run Tryz.func124 rfl (by simp [Tryz.f124]) ?_; simp [Tryz.f124]
  refine ⟨?_, ?_, ?_, rfl⟩ <;> simp +contextual
def amongM (n lo hi : Int) : Bool := decide (lo ≤ n) && decide (n ≤ hi)
theorem among_ok (n lo hi : Int) : Pure Tryz.prog 123 [.d (.v (.int .i64 n)), .d (.v (.int .i64 lo)), .d (.v (.int .i64 hi))] (.d (.v (.bool (amongM n lo hi)))) := by
  refine Pure.run Tryz.func123 rfl (by simp [Tryz.f123]) ?_; simp [Tryz.f123]
  rfl
def isM (n : Int) : Bool := decide (-32768 ≤ n) && decide (n ≤ 32767)
theorem isV_ok (n : Int) : Pure Tryz.prog 118 [.d (.v (.int .i64 n))] (.d (.v (.bool (isM n)))) := by
  refine Pure.run Tryz.func118 rfl (by simp [Tryz.f118]) ?_; simp [Tryz.f118]
  rfl
def paramsM (t : GTables) (f : Int) : Int := if amongM f 0 (t.Funcs.length - 1) && amongM (t.Funcs[f.toNat]?.getD 0) 0 (t.Params.length - 1) then t.Params[(t.Funcs[f.toNat]?.getD 0).toNat]?.getD 0 else -1
theorem params_ok (t : GTables) (ht : t.wf) (f : Int) : Pure Tryz.prog 125 [.agg (t.enc.map .d), .d (.v (.int .i64 f))] (.d (.v (.int .i64 (paramsM t f)))) := by
  refine Pure.run Tryz.func125 rfl (by simp [Tryz.f125]) ?_; simp [Tryz.f125]
  intro bs
  refine AWP.regionD [.d (.v (.bool (amongM f 0 (t.Funcs.length - 1)))), .d (.v (.bool (amongM (t.Funcs[f.toNat]?.getD 0) 0 (t.Params.length - 1))))] Tryz.mixed (by kernel_rfl) (by rfl) ?_
  have hA := fun a b c L => (among_ok a b c).ok L
  have hl1 := GTables.wl_Funcs ht
  have hl2 := GTables.wl_Params ht
  have a1 : inR .i64 ((t.Funcs.length : Int) - 1) := by rw [inR_i64]; omega
  have a2 : inR .i64 ((t.Params.length : Int) - 1) := by rw [inR_i64]; omega
  have hk : amongM f 0 (t.Funcs.length - 1) = true → 0 ≤ f ∧ f.toNat < t.Funcs.length := by simp [amongM]; omega
  have hk2 : amongM (t.Funcs[f.toNat]?.getD 0) 0 (t.Params.length - 1) = true → 0 ≤ t.Funcs[f.toNat]?.getD 0 ∧ (t.Funcs[f.toNat]?.getD 0).toNat < t.Params.length := by simp [amongM]; omega
  unfold paramsM
  simp [hA, a1, a2]
  refine ⟨fun h => ⟨hk h, h⟩, fun h h1 h2 => ?_, fun h1 h2 => ?_⟩
  · simp [h1, h2] at h
  · refine AWP.regionD [] Tryz.mixed (by kernel_rfl) (by rfl) ?_
    simp [h1, h2]
    exact ⟨hk h1, hk2 h2⟩
def boundK (t : GTables) (e : GExpr) (locals : Int) (said : Bool) : Bool :=
  if e.Kind = 1 then bareM e 0 false true false && isM e.Num
  else if e.Kind = 14 then bareM e 0 false true false && amongM e.Num 0 (t.Globals.length - 1)
  else if e.Kind = 15 then bareM e 0 false true false && decide (0 ≤ e.Num) && decide (e.Num < locals)
  else if e.Kind = 19 then said && bareM e 0 false true false && amongM e.Num 0 (t.Texts.length - 1)
  else if e.Kind = 4 ∨ e.Kind = 5 ∨ e.Kind = 11 then bareM e 1 false false false
  else if e.Kind = 13 then said && bareM e 1 false false false
  else if e.Kind = 6 then bareM e 2 true false false && amongM e.Op 1 14
  else if e.Kind = 16 then bareM e 1 false true false && decide (0 ≤ e.Num) && decide (e.Num < t.Flags)
  else if e.Kind = 17 then bareM e 1 false true false && amongM e.Num 0 (t.Props.length - 1)
  else if e.Kind = 18 then bareM e e.Args.length false true false && decide (paramsM t e.Num = e.Args.length)
  else if e.Kind = 10 then bareM e 1 true false false && amongM e.Op 1 3
  else if e.Kind = 12 then bareM e 0 true false false && amongM e.Op 1 6
  else false
mutual
def boundM (t : GTables) (locals : Int) : GExpr → Bool → Bool
  | .mk k o n s l, said => boundK t (.mk k o n s l) locals said && boundsM t locals l
def boundsM (t : GTables) (locals : Int) : List GExpr → Bool
  | [] => true
  | x :: l => boundM t locals x false && boundsM t locals l
end
theorem boundM_eq (t : GTables) (locals : Int) (e : GExpr) (said : Bool) : boundM t locals e said = (boundK t e locals said && boundsM t locals e.Args) := by cases e; rw [boundM]; rfl
theorem boundsM_all (t : GTables) (locals : Int) (l : List GExpr) : boundsM t locals l = l.all fun x => boundM t locals x false := by
  induction l with
  | nil => rw [boundsM]; rfl
  | cons x l ih => rw [boundsM, ih]; rfl
set_option maxRecDepth 20000 in
set_option maxHeartbeats 4000000 in
theorem boundX_ok (t : GTables) (ht : t.wf) (locals : Int) (e : GExpr) (he : e.wf) (said : Bool) : Pure Tryz.prog 79 [.agg (t.enc.map .d), .agg (e.enc.map .d), .d (.v (.int .i64 locals)), .d (.v (.bool said))] (.d (.v (.bool (boundM t locals e said)))) := by
  obtain ⟨n, hn⟩ : ∃ n, SizeOf.sizeOf e < n := ⟨_, Nat.lt_succ_self _⟩
  induction n generalizing e said with
  | zero => omega
  | succ n ih =>
    have hw := (GExpr.wf_iff e).1 he
    have hlen : e.Args.length ≤ 2199023255488 := by omega
    have hsub : ∀ (i : Nat) (h : i < e.Args.length) said, Pure Tryz.prog 79 [.agg (t.enc.map .d), .agg ((e.Args[i]).enc.map .d), .d (.v (.int .i64 locals)), .d (.v (.bool said))] (.d (.v (.bool (boundM t locals (e.Args[i]) said)))) := fun i h said =>
      ih _ (hw.2.2.2.2.2 _ (List.getElem_mem h)) said (by have := GExpr.lt_of_mem (List.getElem_mem h); omega)
    rw [boundM_eq]
    have hA := fun a b c L => (among_ok a b c).ok L
    have hI := fun a L => (isV_ok a).ok L
    have hB := fun n a b c L => (bare_ok e n a b c).ok L
    have hP := fun f L => (params_ok t ht f).ok L
    have b1 := GTables.wl_Globals ht
    have b2 := GTables.wl_Texts ht
    have b3 := GTables.wl_Props ht
    have a1 : inR .i64 ((t.Globals.length : Int) - 1) := by rw [inR_i64]; omega
    have a2 : inR .i64 ((t.Texts.length : Int) - 1) := by rw [inR_i64]; omega
    have a3 : inR .i64 ((t.Props.length : Int) - 1) := by rw [inR_i64]; omega
    have hkk : e.Kind = 1 ∨ e.Kind = 14 ∨ e.Kind = 15 ∨ e.Kind = 19 ∨ e.Kind = 4 ∨ e.Kind = 5 ∨ e.Kind = 11 ∨ e.Kind = 13 ∨ e.Kind = 6 ∨ e.Kind = 16 ∨ e.Kind = 17 ∨ e.Kind = 18 ∨ e.Kind = 10 ∨ e.Kind = 12 ∨ (e.Kind ≠ 1 ∧ e.Kind ≠ 14 ∧ e.Kind ≠ 15 ∧ e.Kind ≠ 19 ∧ e.Kind ≠ 4 ∧ e.Kind ≠ 5 ∧ e.Kind ≠ 11 ∧ e.Kind ≠ 13 ∧ e.Kind ≠ 6 ∧ e.Kind ≠ 16 ∧ e.Kind ≠ 17 ∧ e.Kind ≠ 18 ∧ e.Kind ≠ 10 ∧ e.Kind ≠ 12) := by omega
    rcases hkk with hk | hk | hk | hk | hk | hk | hk | hk | hk | hk | hk | hk | hk | hk | hk
    all_goals
      have hK : boundK t e locals said = boundK t e locals said := rfl
      conv at hK => rhs; unfold boundK
      simp [hk] at hK
      refine Pure.run Tryz.func79 rfl (by simp [Tryz.f79]) ?_; simp [Tryz.f79, hk]
      intro bs
    refine runC_sound _ _ [.d (.v (.bool (bareM e 0 false true false))), .d (.v (.bool (isM e.Num)))] (by rfl) ?_
    rotate_left
    refine runC_sound _ _ [.d (.v (.bool (bareM e 0 false true false))), .d (.v (.bool (amongM e.Num 0 (t.Globals.length - 1))))] (by rfl) ?_
    rotate_left
    refine runC_sound _ _ [.d (.v (.bool (bareM e 0 false true false)))] (by rfl) ?_
    rotate_left
    refine runC_sound _ _ [.d (.v (.bool (bareM e 0 false true false))), .d (.v (.bool (amongM e.Num 0 (t.Texts.length - 1))))] (by rfl) ?_
    rotate_left
    refine runC_sound _ _ [.d (.v (.bool (bareM e 1 false false false)))] (by rfl) ?_
    rotate_left
    refine runC_sound _ _ [.d (.v (.bool (bareM e 1 false false false)))] (by rfl) ?_
    rotate_left
    refine runC_sound _ _ [.d (.v (.bool (bareM e 1 false false false)))] (by rfl) ?_
    rotate_left
    refine runC_sound _ _ [.d (.v (.bool (bareM e 1 false false false)))] (by rfl) ?_
    rotate_left
    refine runC_sound _ _ [.d (.v (.bool (bareM e 2 true false false))), .d (.v (.bool (amongM e.Op 1 14)))] (by rfl) ?_
    rotate_left
    refine runC_sound _ _ [.d (.v (.bool (bareM e 1 false true false)))] (by rfl) ?_
    rotate_left
    refine runC_sound _ _ [.d (.v (.bool (bareM e 1 false true false))), .d (.v (.bool (amongM e.Num 0 (t.Props.length - 1))))] (by rfl) ?_
    rotate_left
    refine AWP.regionD [.d (.v (.bool (bareM e e.Args.length false true false))), .d (.v (.int .i64 (paramsM t e.Num)))] Tryz.mixed (by kernel_rfl) (by rfl) ?_
    rotate_left
    refine runC_sound _ _ [.d (.v (.bool (bareM e 1 true false false))), .d (.v (.bool (amongM e.Op 1 3)))] (by rfl) ?_
    rotate_left
    refine runC_sound _ _ [.d (.v (.bool (bareM e 0 true false false))), .d (.v (.bool (amongM e.Op 1 6)))] (by rfl) ?_
    rotate_left
    rotate_left
    all_goals
      try simp [hA, hB, hI, hP, a1, a2, a3]
      refine AWP.loopS [2, 4, 9, 154, 155, 156] e.Args.length (fun i => [(9, .d (.v (.bool (boundK t e locals said && boundsM t locals (e.Args.take i))))), (156, .d (.v (.int .i64 i)))]) (fun _ => []) (fun _ => True) (by rfl) (by simp [hK, boundsM] <;> rfl) ?_
      clear hK hA hI hB hP a1 a2 a3 b1 b2 b3
      generalize boundK t e locals said = b
      intro i hi _
      rcases Nat.lt_or_eq_of_le hi with hlt | rfl
      · have hge : e.Args[i]? = some e.Args[i] := List.getElem?_eq_getElem hlt
        have htk : boundsM t locals (e.Args.take (i + 1)) = (boundsM t locals (e.Args.take i) && boundM t locals e.Args[i] false) := by
          rw [List.take_add_one, hge, boundsM_all, boundsM_all, List.all_append]; simp
        have hS := fun L => (hsub i hlt false).ok L
        have a2 : inR .i64 ((i : Int) + 1) := by rw [inR_i64]; omega
        generalize hE : e.Args[i] = x at *
        simp [hlt, hge, hE]
        intro bs2
        refine runC_sound _ _ [.d (.v (.bool (boundM t locals x false)))] (by rfl) ?_
        simp [hS, a2, hlt, hE, htk, Bool.and_assoc] <;> (intro h1 h2; first | exact ⟨h1, h2⟩ | exact ⟨⟨h1, h2⟩, hS _⟩)
      · simp
end Go.Ab

namespace Go.Ab
open Go.Proofs
def ownM (e : GExpr) : GIns :=
  if e.Kind = 1 then ⟨1, e.Num⟩ else if e.Kind = 14 then ⟨3, e.Num⟩ else if e.Kind = 15 then ⟨5, e.Num⟩ else if e.Kind = 12 then ⟨7, e.Op⟩
  else if e.Kind = 4 then ⟨9, 0⟩ else if e.Kind = 5 then ⟨10, 0⟩ else if e.Kind = 11 then ⟨20, 0⟩ else if e.Kind = 6 then ⟨8, e.Op⟩
  else if e.Kind = 16 then ⟨12, e.Num⟩ else if e.Kind = 17 then ⟨13, e.Num⟩ else if e.Kind = 18 then ⟨26, e.Num⟩ else ⟨19, e.Op⟩
mutual
def szE : GExpr → Nat
  | .mk _ _ _ _ l => 1 + szEs l
def szEs : List GExpr → Nat
  | [] => 0
  | x :: l => szE x + szEs l
end
theorem szE_eq (e : GExpr) : szE e = 1 + szEs e.Args := by cases e; rw [szE]; rfl
theorem szEs_app (l r : List GExpr) : szEs (l ++ r) = szEs l + szEs r := by
  induction l with
  | nil => simp [szEs]
  | cons x l ih => simp only [List.cons_append, szEs, ih]; omega
mutual
def genE : GExpr → Int → List GIns × Int
  | .mk k o n s l, m =>
    if k = 6 ∧ (o = 1 ∨ o = 2) then
      match l with
      | a :: b :: _ => ((genE a (m + 2)).1 ++ [⟨25, m⟩] ++ (if o = 1 then [⟨1, 1⟩, ⟨24, m + 1⟩, ⟨38, m⟩] ++ (genE b (genE a (m + 2)).2).1 ++ [⟨11, 0⟩, ⟨38, m + 1⟩]
          else (genE b (genE a (m + 2)).2).1 ++ [⟨11, 0⟩, ⟨24, m + 1⟩, ⟨38, m⟩, ⟨1, 0⟩, ⟨38, m + 1⟩]), (genE b (genE a (m + 2)).2).2)
      | _ => ([], m)
    else ((genEs l m).1 ++ [ownM (.mk k o n s l)], (genEs l m).2)
def genEs : List GExpr → Int → List GIns × Int
  | [], m => ([], m)
  | x :: l, m => ((genE x m).1 ++ (genEs l (genE x m).2).1, (genEs l (genE x m).2).2)
end
def logicE (e : GExpr) : Prop := e.Kind = 6 ∧ (e.Op = 1 ∨ e.Op = 2)
theorem genE_plain (e : GExpr) (m : Int) (h : ¬ logicE e) : genE e m = ((genEs e.Args m).1 ++ [ownM e], (genEs e.Args m).2) := by
  cases e with
  | mk k o n s l =>
    rw [genE.eq_def]
    have h' : ¬ (k = 6 ∧ (o = 1 ∨ o = 2)) := h
    simp only
    rw [if_neg h']
    rfl
theorem genE_or (e a b : GExpr) (r : List GExpr) (m : Int) (hk : e.Kind = 6) (ho : e.Op = 1) (ha : e.Args = a :: b :: r) : genE e m = ((genE a (m + 2)).1 ++ [⟨25, m⟩] ++ ([⟨1, 1⟩, ⟨24, m + 1⟩, ⟨38, m⟩] ++ (genE b (genE a (m + 2)).2).1 ++ [⟨11, 0⟩, ⟨38, m + 1⟩]), (genE b (genE a (m + 2)).2).2) := by
  cases e with
  | mk k o n s l =>
    cases hk; cases ho; cases ha
    rw [genE]
    simp
theorem genE_and (e a b : GExpr) (r : List GExpr) (m : Int) (hk : e.Kind = 6) (ho : e.Op = 2) (ha : e.Args = a :: b :: r) : genE e m = ((genE a (m + 2)).1 ++ [⟨25, m⟩] ++ ((genE b (genE a (m + 2)).2).1 ++ [⟨11, 0⟩, ⟨24, m + 1⟩, ⟨38, m⟩, ⟨1, 0⟩, ⟨38, m + 1⟩]), (genE b (genE a (m + 2)).2).2) := by
  cases e with
  | mk k o n s l =>
    cases hk; cases ho; cases ha
    rw [genE]
    simp
theorem genEs_snoc (l : List GExpr) (x : GExpr) (m : Int) : genEs (l ++ [x]) m = ((genEs l m).1 ++ (genE x (genEs l m).2).1, (genE x (genEs l m).2).2) := by
  induction l generalizing m with
  | nil => simp [genEs]
  | cons y l ih => simp [genEs, ih]
theorem genEs_bd (l : List GExpr) (hl : ∀ x ∈ l, ∀ m, m ≤ (genE x m).2 ∧ (genE x m).2 ≤ m + 2 * szE x ∧ (genE x m).1.length ≤ 6 * szE x) (m : Int) : m ≤ (genEs l m).2 ∧ (genEs l m).2 ≤ m + 2 * szEs l ∧ (genEs l m).1.length ≤ 6 * szEs l := by
  induction l generalizing m with
  | nil => simp [genEs, szEs]
  | cons x l ih =>
    have h1 := hl x (by simp) m
    have h2 := ih (fun y hy => hl y (by simp [hy])) (genE x m).2
    rw [genEs, szEs, List.length_append]
    omega
theorem genE_bd (e : GExpr) (m : Int) : m ≤ (genE e m).2 ∧ (genE e m).2 ≤ m + 2 * szE e ∧ (genE e m).1.length ≤ 6 * szE e := by
  obtain ⟨n, hn⟩ : ∃ n, SizeOf.sizeOf e < n := ⟨_, Nat.lt_succ_self _⟩
  induction n generalizing e m with
  | zero => omega
  | succ n ih =>
    have hs : ∀ x ∈ e.Args, ∀ m, m ≤ (genE x m).2 ∧ (genE x m).2 ≤ m + 2 * szE x ∧ (genE x m).1.length ≤ 6 * szE x := fun x hx m => ih x m (by have := GExpr.lt_of_mem hx; omega)
    by_cases hL : logicE e
    · obtain ⟨hk, ho⟩ := hL
      by_cases hA : ∃ a b r, e.Args = a :: b :: r
      · obtain ⟨a, b, r, hA⟩ := hA
        have h1 := hs a (by simp [hA]) (m + 2)
        have h2 := hs b (by simp [hA]) (genE a (m + 2)).2
        rw [szE_eq, hA]
        simp only [szEs]
        rcases ho with ho | ho
        · rw [genE_or e a b r m hk ho hA]
          simp only [List.length_append, List.length_cons, List.length_nil]
          omega
        · rw [genE_and e a b r m hk ho hA]
          simp only [List.length_append, List.length_cons, List.length_nil]
          omega
      · have : genE e m = ([], m) := by
          cases e with
          | mk k o n s l =>
            cases l with
            | nil => rw [genE.eq_def]; simp [show k = 6 from hk, show o = 1 ∨ o = 2 from ho]
            | cons a l =>
              cases l with
              | nil => rw [genE.eq_def]; simp [show k = 6 from hk, show o = 1 ∨ o = 2 from ho]
              | cons b r => exact absurd ⟨a, b, r, rfl⟩ hA
        rw [this]
        simp
        omega
    · rw [genE_plain e m hL, szE_eq]
      have := genEs_bd e.Args hs m
      simp only [List.length_append, List.length_cons, List.length_nil]
      omega
end Go.Ab

namespace Go.Ab
section
variable {P : Program} {n : Nat} {Q : AX → St → Prop}
def EffP (P : Program) (ops : Array Oper) (o : Oper) (s : St) (K : V → Option Nat → Heap → Prop) (KP : V → Heap → Prop) : Prop :=
  (∃ x k L', (∀ n, LOp P n ops o s.fr s.L k x L') ∧ K x k L') ∨ (∃ y L', (∀ n, LOpP P n ops o s.fr s.L y L') ∧ KP y L')
def dAllC (P : Program) (ops : Array Oper) (c : Nat) (ks : List (Option Nat)) (Ls : List Heap) : List Dfr → Prop
  | [] => True
  | d :: ds => allP (min d.hi c - d.lo) (d.lo + 1) (fun p => qAt P ops d.o ⟨frAt ks p d.fr, Ls.getD p []⟩ d.x d.told) ∧ dAllC P ops c ks Ls ds
def runX (P : Program) (ops : Array Oper) (c : Nat) : List (Oper × Option (Nat × Nat)) → FrM → List (Option Nat) → List Heap → List V → Prop
  | [], _, _, _, _ => True
  | (o, none) :: rest, fr, ks, Ls, us => runX P ops c rest (putM fr o.dst (ks.length + 1) .any) (ks ++ [none]) (Ls ++ [[]]) us
  | (o, some (lo, hi)) :: rest, fr, ks, Ls, us =>
    if c < lo then runX P ops c rest (putM fr o.dst lo .any) ks Ls us
    else if isCall o then
      match us with
      | [] => False
      | u :: us' => match cv P ops ⟨frAt ks lo fr, Ls.getD lo []⟩ o u with
        | some (x, cd) => cd ∧ allP (min hi c - lo) (lo + 1) (fun p => qAt P ops o ⟨frAt ks p fr, Ls.getD p []⟩ x (some u)) ∧ runX P ops c rest (putM fr o.dst lo x) ks Ls us'
        | none => False
    else
      match qv P ops ⟨frAt ks lo fr, Ls.getD lo []⟩ o with
      | some (x, cd) => cd ∧ allP (min hi c - lo) (lo + 1) (fun p => qAt P ops o ⟨frAt ks p fr, Ls.getD p []⟩ x none) ∧ runX P ops c rest (putM fr o.dst lo x) ks Ls us
      | none => False
def runP (P : Program) (ops : Array Oper) (ov : List Nat) : List (Oper × Option (Nat × Nat)) → FrM → List (Option Nat) → List Heap → List V → List Dfr → (FrM → List (Option Nat) → List Heap → Prop) → (V → Heap → Prop) → Prop
  | [], fr, ks, Ls, _, ds, K, _ => dAll P ops ks Ls ds ∧ K fr ks Ls
  | (o, none) :: rest, fr, ks, Ls, us, ds, K, KP =>
    match (if ov.any (fun t => o.dst == some t) then none else lv P ops ⟨frAt ks ks.length fr, Ls.getD ks.length []⟩ o) with
    | some (x, k, L', c) => c ∧ runP P ops ov rest (putM fr o.dst (ks.length + 1) x) (ks ++ [k]) (Ls ++ [L']) us ds K KP
    | none => EffP P ops o ⟨frAt ks ks.length fr, Ls.getD ks.length []⟩
        (fun x k L' => runP P ops ov rest (putM fr o.dst (ks.length + 1) x) (ks ++ [k]) (Ls ++ [L']) us ds K KP)
        (fun y L' => KP y L' ∧ dAllC P ops ks.length ks Ls ds ∧ runX P ops ks.length rest (putM fr o.dst (ks.length + 1) .any) (ks ++ [none]) (Ls ++ [[]]) us)
  | (o, some (lo, hi)) :: rest, fr, ks, Ls, us, ds, K, KP =>
    if isCall o then
      match us with
      | [] => False
      | u :: us' => match cv P ops ⟨frAt ks ks.length fr, Ls.getD ks.length []⟩ o u with
        | some (x, c) => c ∧ allP (ks.length - lo) lo (fun p => qAt P ops o ⟨frAt ks p fr, Ls.getD p []⟩ x (some u)) ∧
            runP P ops ov rest (putM fr o.dst lo x) ks Ls us' (if ks.length < hi then ⟨o, fr, x, ks.length, hi, some u⟩ :: ds else ds) K KP
        | none => False
    else
      match qv P ops ⟨frAt ks ks.length fr, Ls.getD ks.length []⟩ o with
      | some (x, c) => c ∧ allP (ks.length - lo) lo (fun p => qAt P ops o ⟨frAt ks p fr, Ls.getD p []⟩ x none) ∧
          runP P ops ov rest (putM fr o.dst lo x) ks Ls us (if ks.length < hi then ⟨o, fr, x, ks.length, hi, none⟩ :: ds else ds) K KP
      | none => False
attribute [simp] runP runX dAllC
end
end Go.Ab

namespace Go.Ab
section
variable {P : Program} {n : Nat} {s : St} {Q : AX → St → Prop} {L : Heap} {ops : Array Oper}
def XPost (P : Program) (rs : List ResultVar) (R : AE → Heap → Prop) (ts hs : List Nat) (x : AX) (s : St) : Prop :=
  match x with
  | .normal | .ret => (s.pick ts hs).on (keys (s.pick ts hs).L) = true ∧ FPost P rs R .ret (s.pick ts hs)
  | .pan y => ((s.pick [] hs).on (keys (s.pick [] hs).L) = true ∧ y.on [] = true) ∧ R (.pan y) (s.pick [] hs).L
  | _ => False
theorem AWP.xpost {c} {rs} {R} ts hs (ht : ts.all (fun t => decide (t < n)) = true) (hh : hs.Nodup) (h : AWP P n c s (XPost P rs R ts hs)) : AWP P n c s (FPost P rs R) := by
  intro fo m a w hr g
  refine Code.wpIn_mono (fun e a1 w1 hp => ?_) (h fo m a w hr g)
  obtain ⟨ms, m', x, s', hmk, hq, g', he, st⟩ := hp
  have key : ∀ y, (s'.pick ts hs).on (keys (s'.pick ts hs).L) = true ∧ FPost P rs R .ret (s'.pick ts hs) → (∀ m2, Exits w1 (OO (fo.mark ms) m2) m2 e y) → FPost P rs R .ret (s'.pick ts hs) = FPost P rs R y (s'.pick ts hs) → Post fo n m w (FPost P rs R) e a1 w1 := by
    intro y h1 h2 h3
    obtain ⟨m2, g2, st2⟩ := Wk.pick ts hs ht hh h1.1 (fo.mark ms) m' a1 w1 g'
    exact ⟨ms, m2, y, s'.pick ts hs, hmk, h3 ▸ h1.2, g2, h2 m2, st.trans st2⟩
  cases x with
  | normal =>
    refine key .normal hq (fun m2 => ?_) rfl
    grind [Exits]
  | ret =>
    refine key .ret hq (fun m2 => ?_) rfl
    grind [Exits]
  | pan y =>
    obtain ⟨⟨h1, h2⟩, h3⟩ := hq
    obtain ⟨m2, g2, st2⟩ := Wk.pick [] hs rfl hh h1 (fo.mark ms) m' a1 w1 g'
    refine ⟨ms, m2, .pan y, s'.pick [] hs, hmk, h3, g2, ?_, st.trans st2⟩
    cases e <;> simp  [Exits] at he ⊢
    obtain ⟨v, older, rfl, ho', hv⟩ := he
    exact ⟨v, older, rfl, ho', (hv.on   (by simp) h2).mono (Step.keep  st2) (Step.sub st2) (fun _ _ e => e)⟩
  | exit i => exact hq.elim
  | goto i => exact hq.elim
theorem ACalls.runX ts hs {f} {args} {R} {fn} {c} (hf : P.funcs[f]? = some fn) (hb : fn.body = some c) (hn : args.length ≤ fn.ntmps ∧ ts.all (fun t => decide (t < fn.ntmps)) = true ∧ hs.Nodup)
    (h : codeK P fn.ntmps c ⟨argFrame 0 args, L⟩ (kontK P fn.ntmps (XPost P fn.results.toList R ts hs) [])) : ACalls P f args L R :=
  ACalls.of_AWP hf hb hn.1 (AWP.xpost ts hs hn.2.1 hn.2.2 (codeK_sound _ _ _ h))
attribute [simp] XPost
theorem AWP.named {c} (h : ∀ Q', Q' = Q → AWP P n c s Q') : AWP P n c s Q := h _ rfl
theorem inB_ne {id j} (h : Q (.exit j) s) (hn : j ≠ id) : AX.inBlock id Q (.exit j) s := by simp_all
theorem inB_eq {id} (h : Q .normal s) : AX.inBlock id Q (.exit id) s := by simp_all
theorem inB_ret {id} (h : Q .ret s) : AX.inBlock id Q .ret s := h
theorem inB_nrm {id} (h : Q .normal s) : AX.inBlock id Q .normal s := h
theorem thn_ne {f} {j} (h : Q (.exit j) s) : AX.then f Q (.exit j) s := h
theorem thn_nrm {f} (h : f s) : AX.then f Q .normal s := h
theorem thn_ret {f} (h : Q .ret s) : AX.then f Q .ret s := h
end
end Go.Ab

namespace Go.Ab
section
variable {P : Program} {n : Nat} {Q : AX → St → Prop} {ops : Array Oper} {ov : List Nat}
def stopS (P : Program) (ops : Array Oper) (ov : List Nat) (l : List (Oper × Option (Nat × Nat))) (fr : FrM) (ks : List (Option Nat)) (Ls : List Heap) (us : List V) (ds : List Dfr) (Q : AX → St → Prop) : Prop :=
  runP P ops ov l fr ks Ls us ds (fun fr ks Ls => ∀ bs, Q .normal (St.opn bs ⟨frAt ks ks.length fr, Ls.getD ks.length []⟩)) (fun y L' => ∀ bs, Q (.pan y) (St.opn bs ⟨[], L'⟩))
def runS (P : Program) (ops : Array Oper) (ov : List Nat) : List (Oper × Option (Nat × Nat)) → FrM → List (Option Nat) → List Heap → List V → List Dfr → (AX → St → Prop) → Prop
  | [], fr, ks, Ls, _, ds, Q => dAll P ops ks Ls ds ∧ ∀ bs, Q .normal (St.opn bs ⟨frAt ks ks.length fr, Ls.getD ks.length []⟩)
  | (o, none) :: rest, fr, ks, Ls, us, ds, Q =>
    match (if ov.any (fun t => o.dst == some t) then none else lv P ops ⟨frAt ks ks.length fr, Ls.getD ks.length []⟩ o) with
    | some (x, k, L', c) => c ∧ runS P ops ov rest (putM fr o.dst (ks.length + 1) x) (ks ++ [k]) (Ls ++ [L']) us ds Q
    | none => stopS P ops ov ((o, none) :: rest) fr ks Ls us ds Q
  | (o, some (lo, hi)) :: rest, fr, ks, Ls, us, ds, Q =>
    if isCall o then
      match us with
      | [] => False
      | u :: us' => match cv P ops ⟨frAt ks ks.length fr, Ls.getD ks.length []⟩ o u with
        | some (x, c) => c ∧ allP (ks.length - lo) lo (fun p => qAt P ops o ⟨frAt ks p fr, Ls.getD p []⟩ x (some u)) ∧
            runS P ops ov rest (putM fr o.dst lo x) ks Ls us' (if ks.length < hi then ⟨o, fr, x, ks.length, hi, some u⟩ :: ds else ds) Q
        | none => False
    else
      match qv P ops ⟨frAt ks ks.length fr, Ls.getD ks.length []⟩ o with
      | some (x, c) => c ∧ allP (ks.length - lo) lo (fun p => qAt P ops o ⟨frAt ks p fr, Ls.getD p []⟩ x none) ∧
          runS P ops ov rest (putM fr o.dst lo x) ks Ls us (if ks.length < hi then ⟨o, fr, x, ks.length, hi, none⟩ :: ds else ds) Q
      | none => False
theorem boxes_stay {L1 L1' : Heap} (h : L1.all (fun p => !isBox p.2 || L1'.any (fun q => q.1 == p.1 && (isBox q.2 && boxAt q.2 == boxAt p.2))) = true) : ∀ k b ty cs, (k, Res.box (b + 1) ty cs) ∈ L1 → ∃ ty' cs', (k, Res.box (b + 1) ty' cs') ∈ L1' := by
  intro k b ty cs hm
  have := List.all_eq_true.1 h _ hm
  simp   at this
  grind [boxAt, Option.some.injEq]
attribute [simp] runS
end
end Go.Ab

namespace Go.Ab
section
variable {P : Program} {n : Nat} {Q : AX → St → Prop}
def isTold (ov : List Nat) (o : Oper) : Bool := isCall o || ov.any (fun t => o.dst == some t)
def tv (P : Program) (ops : Array Oper) (s : St) (o : Oper) (u : V) : Option (V × Prop) := if isCall o then cv P ops s o u else some (u, YOp P ops o s u)
theorem tv_sound {ops} {s} {o} {u x} {c} (h : tv P ops s o u = some (x, c)) (hc : c) : YOp P ops o s x := by
  unfold tv at h
  split at h
  · exact cv_sound h hc
  grind
def tAt (P : Program) (ops : Array Oper) (o : Oper) (s : St) (x : V) : Option V → Prop
  | some u => match tv P ops s o u with
    | some (x', c) => x' = x ∧ c
    | none => False
  | none => match qv P ops s o with
    | some (x', c) => x' = x ∧ c
    | none => False
theorem tAt_sound {ops} {s} {o} {x} {t} (h : tAt P ops o s x t) : YOp P ops o s x := by
  cases t with
  | some u =>
    simp only [tAt] at h
    split at h
    · rename_i x' c hc; obtain ⟨rfl, h⟩ := h; exact tv_sound hc h
    grind
  | none =>
    simp only [tAt] at h
    split at h
    · rename_i x' c hc; obtain ⟨rfl, h⟩ := h; exact qv_sound hc h
    grind
def dAllT (P : Program) (ops : Array Oper) (ks : List (Option Nat)) (Ls : List Heap) : List Dfr → Prop
  | [] => True
  | d :: ds => allP (d.hi - d.lo) (d.lo + 1) (fun p => tAt P ops d.o ⟨frAt ks p d.fr, Ls.getD p []⟩ d.x d.told) ∧ dAllT P ops ks Ls ds
def EffT (P : Program) (ops : Array Oper) (o : Oper) (s : St) (K : V → Option Nat → Heap → Prop) : Prop := ∃ x k L', (∀ n, LOp P n ops o s.fr s.L k x L') ∧ K x k L'
def runT (P : Program) (ops : Array Oper) (ov : List Nat) : List (Oper × Option (Nat × Nat)) → FrM → List (Option Nat) → List Heap → List V → List Dfr → (FrM → List (Option Nat) → List Heap → Prop) → Prop
  | [], fr, ks, Ls, _, ds, K => dAllT P ops ks Ls ds ∧ K fr ks Ls
  | (o, none) :: rest, fr, ks, Ls, us, ds, K =>
    match lv P ops ⟨frAt ks ks.length fr, Ls.getD ks.length []⟩ o with
    | some (x, k, L', c) => c ∧ runT P ops ov rest (putM fr o.dst (ks.length + 1) x) (ks ++ [k]) (Ls ++ [L']) us ds K
    | none => EffT P ops o ⟨frAt ks ks.length fr, Ls.getD ks.length []⟩ fun x k L' => runT P ops ov rest (putM fr o.dst (ks.length + 1) x) (ks ++ [k]) (Ls ++ [L']) us ds K
  | (o, some (lo, hi)) :: rest, fr, ks, Ls, us, ds, K =>
    if isTold ov o then
      match us with
      | [] => False
      | u :: us' => match tv P ops ⟨frAt ks ks.length fr, Ls.getD ks.length []⟩ o u with
        | some (x, c) => c ∧ allP (ks.length - lo) lo (fun p => tAt P ops o ⟨frAt ks p fr, Ls.getD p []⟩ x (some u)) ∧
            runT P ops ov rest (putM fr o.dst lo x) ks Ls us' (if ks.length < hi then ⟨o, fr, x, ks.length, hi, some u⟩ :: ds else ds) K
        | none => False
    else
      match qv P ops ⟨frAt ks ks.length fr, Ls.getD ks.length []⟩ o with
      | some (x, c) => c ∧ allP (ks.length - lo) lo (fun p => tAt P ops o ⟨frAt ks p fr, Ls.getD p []⟩ x none) ∧
          runT P ops ov rest (putM fr o.dst lo x) ks Ls us (if ks.length < hi then ⟨o, fr, x, ks.length, hi, none⟩ :: ds else ds) K
      | none => False
theorem runT_tr {ops} {ov} {K} : ∀ l fr ks Ls us ds, Ls.length = ks.length + 1 → runT P ops ov l fr ks Ls us ds K →
    ∃ tr frE ks1 Ls1, TrM l fr ks.length tr frE (ks ++ ks1).length ∧ (∀ (i : Nat) r z, tr[i]? = some r → l[i]? = some z → SemM P n ops (ks ++ ks1) (fun p => (Ls ++ Ls1).getD p []) r z.1) ∧
      dAllT P ops (ks ++ ks1) (Ls ++ Ls1) ds ∧ K frE (ks ++ ks1) (Ls ++ Ls1)
  | [], fr, ks, Ls, us, ds, hl, h => by
    refine ⟨[], fr, [], [], ?_, by simp, ?_, ?_⟩
    · simp only [List.append_nil]; exact .nil fr ks.length
    · simpa using h.1
    · simpa using h.2
  | (o, none) :: rest, fr, ks, Ls, us, ds, hl, h => by
    have key : ∀ (x : V) (k : Option Nat) (L' : Heap), LOp P n ops o (frAt ks ks.length fr) (Ls.getD ks.length []) k x L' → runT P ops ov rest (putM fr o.dst (ks.length + 1) x) (ks ++ [k]) (Ls ++ [L']) us ds K →
        ∃ tr frE ks1 Ls1, TrM ((o, none) :: rest) fr ks.length tr frE (ks ++ ks1).length ∧ (∀ (i : Nat) (r : Rec) (z : Oper × Option (Nat × Nat)), tr[i]? = some r → ((o, none) :: rest)[i]? = some z → SemM P n ops (ks ++ ks1) (fun p => (Ls ++ Ls1).getD p []) r z.1) ∧
          dAllT P ops (ks ++ ks1) (Ls ++ Ls1) ds ∧ K frE (ks ++ ks1) (Ls ++ Ls1) := by
      intro x k L' hlop hr
      obtain ⟨tr, frE, ks1, Ls1, h1, h2, h3, h4⟩ := runT_tr rest _ _ _ us ds (by grind) hr
      rw [List.append_assoc] at h1 h3 h4
      simp only [List.append_assoc, List.length_append, List.length_cons, List.length_nil] at h1 h2 h3 h4
      refine ⟨⟨fr, x, 0, 0, true, ks.length⟩ :: tr, frE, _, _, .loud (by grind), ?_, h3, h4⟩
      intro i r z hi hz
      cases i with
      | zero =>
        simp only [List.getElem?_cons_zero, Option.some.injEq] at hi hz
        subst hi; subst hz
        refine ⟨fun _ => ⟨by simp, ?_⟩, (fun h => by cases h)⟩
        simp only
        rw [frAt_pre (Nat.le_refl _), getD_pre (by omega)]
        grind
      | succ i => grind
    rw [runT] at h
    split at h
    · rename_i x k L' c hst
      exact key x k L' (LOp.of (n := n) hst h.1) h.2
    · obtain ⟨x, k, L', hlop, hr⟩ := h
      grind
  | (o, some (lo, hi)) :: rest, fr, ks, Ls, us, ds, hl, h => by
    have key : ∀ (x : V) (t : Option V) (us' : List V), YOp P ops o ⟨frAt ks ks.length fr, Ls.getD ks.length []⟩ x → allP (ks.length - lo) lo (fun p => tAt P ops o ⟨frAt ks p fr, Ls.getD p []⟩ x t) →
        runT P ops ov rest (putM fr o.dst lo x) ks Ls us' (if ks.length < hi then ⟨o, fr, x, ks.length, hi, t⟩ :: ds else ds) K →
        ∃ tr frE ks1 Ls1, TrM ((o, some (lo, hi)) :: rest) fr ks.length tr frE (ks ++ ks1).length ∧ (∀ (i : Nat) (r : Rec) (z : Oper × Option (Nat × Nat)), tr[i]? = some r → ((o, some (lo, hi)) :: rest)[i]? = some z → SemM P n ops (ks ++ ks1) (fun p => (Ls ++ Ls1).getD p []) r z.1) ∧
          dAllT P ops (ks ++ ks1) (Ls ++ Ls1) ds ∧ K frE (ks ++ ks1) (Ls ++ Ls1) := by
      intro x t us' hc ha hr
      obtain ⟨tr, frE, ks1, Ls1, h1, h2, h3, h4⟩ := runT_tr rest _ _ _ us' _ hl hr
      have hds : dAllT P ops (ks ++ ks1) (Ls ++ Ls1) ds := by
        split at h3
        · exact h3.2
        omega
      refine ⟨⟨fr, x, lo, hi, false, ks.length⟩ :: tr, frE, ks1, Ls1, .quiet h1, ?_, hds, h4⟩
      intro i r z hi' hz
      cases i with
      | zero =>
        simp only [List.getElem?_cons_zero, Option.some.injEq] at hi' hz
        subst hi'; subst hz
        refine ⟨(fun h => by cases h), fun _ p hp1 hp2 => ?_⟩
        simp only at hp1 hp2 ⊢
        rcases Nat.lt_trichotomy p ks.length with hlt | heq | hgt
        · grind [frAt_pre, getD_pre, tAt_sound, allP_at]
        · grind [frAt_pre, getD_pre]
        · rw [if_pos (by omega)] at h3
          exact tAt_sound (allP_at h3.1 p (by grind) (by grind))
      | succ i => grind
    cases hcall : isTold ov o with
    | true =>
      cases us with
      | nil => simp_all [runT, if_pos]
      | cons u us' =>
        rw [runT, if_pos hcall] at h
        split at h
        · rename_i x c hcv
          exact key x (some u) us' (tv_sound hcv h.1) h.2.1 h.2.2
        grind
    | false =>
      rw [runT.eq_def] at h
      simp only [hcall, Bool.false_eq_true, if_false] at h
      split at h
      · rename_i x c hqv
        exact key x none us (qv_sound hqv h.1) h.2.1 h.2.2
      grind
theorem AWP.regionT0 {id} {l} {s} rg ov us (hm : P.follows .mixedOrders = true) (ok : okM n l rg = true)
    (h : runT P l.toArray ov (l.zip rg) (s.fr.map fun e => (e.1, 0, e.2)) [] [s.L] us [] (fun fr ks Ls => Q .normal ⟨frAt ks ks.length fr, Ls.getD ks.length []⟩)) : AWP P n (.region id l.toArray true) s Q := by
  intro fo m a w _ g
  obtain ⟨tr, frE, ks, Ls, h1, h2, -, h4⟩ := runT_tr  (l.zip rg) _ [] [s.L] us [] rfl h
  exact wpIn_region_any hm (any_startM ok h1 h2 rfl h4 g _)
theorem AWP.regionT {id} {l} {s} rg ov us (hm : P.follows .mixedOrders = true) (ok : okM n l rg = true)
    (h : runT P l.toArray ov (l.zip rg) (s.fr.map fun e => (e.1, 0, e.2)) [] [s.L] us [] (fun fr ks Ls => ∀ bs, Q .normal (St.opn bs ⟨frAt ks ks.length fr, Ls.getD ks.length []⟩))) : AWP P n (.region id l.toArray true) s Q :=
  AWP.opened (AWP.regionT0 rg ov us hm ok h)
attribute [simp] runT tv tAt dAllT isTold
end
end Go.Ab

namespace Go.Ab
section
variable {P : Program} {n : Nat}
theorem le_foldr_max : ∀ (l : List Nat) x, x ∈ l → x ≤ l.foldr max 0
  | [], _, h => by cases h
  | y :: l, x, h => by
    rcases List.mem_cons.1 h with rfl | h
    · grind
    · have := le_foldr_max l x h; grind
theorem yop_fresh {ops} {o} {s} {ys} {ty} {k} (hg : o.guard = none)
    (h : ∀ fo m (ρ : Operand → Value) w, Inv fo m s.L w → (∀ z, z ∈ o.op.operands → RelV w (OO fo m) m (ρ z) (s.ev z)) →
      ∃ v w', (execOp ρ o).run P w = .ok (.value v) w' ∧ Grows w w' ∧ (RelD w' (OO fo m) v (.sl ys) ∨
        ((∀ b, blk v b → w.heap.size ≤ b) ∧ ∀ h, h ∉ keys s.L → (Res.row ty k (dd ys)).Holds w' (OO fo (mset m h v)) (mset m h v) v))) : YOp P ops o s (.d (.sl ys)) := by
  intro fo m a w hi hs next Q' kk
  rw [if_pos (by simp [Region.wanted, hg])]
  obtain ⟨v, w', hrun, gr, hor⟩ := h fo m a.eval w hi (fun z hz => eval_of_slots hi.glob (fun t ht => hs t (looks_operand (by grind))))
  refine owp_val hrun (.inl rfl) (kk v w' ?_ (hi.grown gr.size gr.block) ⟨gr.os, gr.tape, gr.output, gr.size, fun b hb _ => gr.block b hb, fun b _ h => h⟩)
  rcases hor with hd | ⟨hb, hh⟩
  · exact .d _ _ hd
  · have hn : (keys s.L).foldr max 0 + 1 ∉ keys s.L := fun hm => by have := le_foldr_max _ _ hm; omega
    have hi' := hi.new hn gr.size gr.block hb (hh _ hn)
    refine .d _ _ (row_data' (ty := ty) (k := k) hi' (by simp) (mset_same _ _) (fun b ho => ?_) (fun b hv ho => ?_))
    · rcases ho with ⟨i, x, hx, hbx⟩ | hf
      · exact .inl ⟨i, x, mset_sub hi hn v i x hx, hbx⟩
      · exact .inr hf
    · have h1 := hb b hv
      rcases ho with ⟨i, x, hx, hbx⟩ | hf
      · have := hi.lt hx hbx; omega
      · have := hi.folt b hf; omega
theorem yop_build {ops} {dst} {t} {len} {ps} {ty} {pos} {after} {k by_} {e} {z} {r} {c} {s} {ys}
    (ht : tySl P t = some (e, k, by_, z)) (hk : 0 < k) (hlen : len * k ≤ 2 ^ 24)
    (hf : fillV (fun i => some (i * k, k)) (List.replicate len (z.map fun x => V.d (.v x))).flatten (ps.toList.map fun p => (p.1, s.ev p.2)) = some (r, c)) (hc : c)
    (hxs : r = (dd ys).flatten) (hxl : ys.length = len) (hxk : ∀ x ∈ ys, x.length = k) : YOp P ops ⟨dst, .buildSlice t len ps, ty, pos, after, none⟩ s (.d (.sl ys)) := by
  refine yop_fresh (ty := e) (k := k) rfl ?_
  intro fo m ρ w hi hr
  obtain ⟨v, w', h1, h2, h3, -, h5⟩ := buildSlice_raw (dst := dst) (ty := ty) (pos := pos) (after := after) (guard := none) ht hk hlen hf hc hxs (by simp_all) (by simp_all) hi hr
  grind
end
end Go.Ab

namespace Go.Ab
def D.deep : Nat → D → D
  | 0, x => x.nn
  | k + 1, .sl ys => .sl (ys.map (·.map (D.deep k)))
  | _ + 1, x => x.nn
theorem RelD.deep {w : World} {O : Nat → Prop} : ∀ (k : Nat) {x : Value} {y : D}, RelD w O x y → RelD w O x (y.deep k)
  | 0, x, y, h => h.nn
  | k + 1, x, .v z, h => by rw [D.deep]; exact h.nn; simp
  | k + 1, x, .ifc t a cs, h => by rw [D.deep]; exact h.nn; simp
  | k + 1, x, .sl ys, h => by
    rw [D.deep]
    cases h with
    | sl a n cap xs k' b off f hn hcap hmax ha hk hc hr =>
      refine .sl a n cap _ k' b off f (by simpa using hn) hcap hmax ha ?_ hc ?_
      · intro i x hx
        rw [List.getElem?_map] at hx
        obtain ⟨z, hz, rfl⟩ := Option.map_eq_some_iff.1 hx
        rw [List.length_map]; exact hk i z hz
      · intro i j x y hx hy
        rw [List.getElem?_map] at hx
        obtain ⟨z, hz, rfl⟩ := Option.map_eq_some_iff.1 hx
        rw [List.getElem?_map] at hy
        obtain ⟨u, hu, rfl⟩ := Option.map_eq_some_iff.1 hy
        exact (hr i j z u hz hu).deep k
def V.deep1 (k : Nat) : V → V
  | .d y => .d (y.deep k)
  | v => v
def V.deep (k : Nat) : V → V
  | .d y => .d (y.deep k)
  | .agg cs => .agg (cs.map (V.deep1 k))
  | v => v
theorem RelV.deep1 {w : World} {O : Nat → Prop} {m : Nat → Option Value} (k : Nat) {x : Value} {y : V} (h : RelV w O m x y) : RelV w O m x (y.deep1 k) := by
  unfold V.deep1
  split
  · exact .d _ _ (h.d_inv.deep k)
  · exact h
theorem RelV.deep {w : World} {O : Nat → Prop} {m : Nat → Option Value} (k : Nat) {x : Value} {y : V} (h : RelV w O m x y) : RelV w O m x (y.deep k) := by
  unfold V.deep
  split
  · exact .d _ _ (h.d_inv.deep k)
  · cases h with
    | agg vs cs hs h1 h =>
      refine .agg vs _ (by simpa using hs) h1 ?_
      intro j x y hx hy
      rw [List.getElem?_map] at hy
      obtain ⟨z, hz, rfl⟩ := Option.map_eq_some_iff.1 hy
      exact (h j x z hx hz).deep1 k
  · exact h
theorem ACalls.deep (k : Nat) {P : Program} {f : FuncId} {args args' : List V} {L : Heap} {R : AE → Heap → Prop} (h : ACalls P f args' L R) (ha : args.map (V.deep k) = args') : ACalls P f args L R := by
  intro fo m w xs hi hx
  refine h fo m w xs hi ⟨by rw [hx.1, ← ha, List.length_map], ?_⟩
  intro j x y h1 h2
  rw [← ha, List.getElem?_map] at h2
  obtain ⟨z, hz, rfl⟩ := Option.map_eq_some_iff.1 h2
  exact (hx.2 j x z h1 hz).deep k
theorem Pure.deep (k : Nat) {P : Program} {f : FuncId} {args args' : List V} {x : V} (h : Pure P f args' x) (ha : args.map (V.deep k) = args') (ho : V.ons [] args = true) : Pure P f args x :=
  ⟨h.en, ho, h.rn, h.calls.deep k ha⟩
def Res.deep (k : Nat) : Res → Res
  | .box b t cs => .box b t (cs.map (V.deep1 k))
  | r => r
def St.deep (k : Nat) (s : St) : St := ⟨s.fr.map fun p => (p.1, p.2.deep k), s.L.map fun p => (p.1, p.2.deep k)⟩
theorem Wk.deep (k : Nat) {n : Nat} {s s' : St} (h : s.deep k = s') : Wk n s s' := by
  subst h
  intro fo m a w g
  have hi := g.inv
  have hk : keys (St.deep k s).L = keys s.L := by simp [keys, St.deep, Function.comp_def]
  refine ⟨m, ⟨g.size, ?_, ⟨by rw [hk]; exact hi.nodup, fun h x hx => by rw [hk]; exact hi.dom h x hx, hi.apart, hi.others, hi.folt, ?_, hi.glob⟩, g.defers⟩, Step.refl w _⟩
  · intro t x hx
    obtain ⟨p, hp, he⟩ := List.mem_map.1 hx
    simp only [Prod.mk.injEq] at he
    obtain ⟨rfl, rfl⟩ := he
    obtain ⟨h1, h2⟩ := g.fr p.1 p.2 hp
    exact ⟨h1, h2.deep k⟩
  · intro h r hr
    obtain ⟨p, hp, he⟩ := List.mem_map.1 hr
    simp only [Prod.mk.injEq] at he
    obtain ⟨rfl, rfl⟩ := he
    obtain ⟨x, hx, hh⟩ := hi.holds p.1 p.2 hp
    refine ⟨x, hx, ?_⟩
    generalize p.2 = q at hh
    cases q with
    | row ty k xs => exact hh
    | env A => exact hh
    | mp es => exact hh
    | box b ty cs =>
      obtain ⟨bb, h0, cur, e, hb, hs, h1, h2⟩ := hh
      refine ⟨bb, h0, cur, e, hb, by simpa using hs, ?_, ?_⟩
      · exact h1
      · intro j v z hv hz
        rw [List.getElem?_map] at hz
        obtain ⟨y, hy, rfl⟩ := Option.map_eq_some_iff.1 hz
        exact (h2 j v y hv hy).deep1 k
end Go.Ab

namespace Go.Ab
open Go.Proofs
abbrev intD (n : Int) : V := .d (.v (.int .i64 n))
abbrev boolD (b : Bool) : V := .d (.v (.bool b))
theorem opA_lt {l : List GIns} {k j : Nat} (h : opA (l.drop k) j ≠ 0) : k + j < l.length := by
  unfold opA at h
  rw [List.getElem?_drop] at h
  by_cases h2 : k + j < l.length
  · exact h2
  · rw [List.getElem?_eq_none (by omega)] at h; exact (h rfl).elim
end Go.Ab

namespace Go.Ab
open Go.Proofs
end Go.Ab

namespace Go.Ab
open Go.Proofs
end Go.Ab

namespace Go.Ab
open Go.Proofs
def goesR (l r : List GIns) : Option (Nat × Nat × List GIns) :=
  if endsOp (opA r 0) ∧ 0 < deadN r.tail then some (1, deadN r.tail, [])
  else if opA r 0 = 24 ∨ opA r 0 = 25 then
    (if opA r 0 = 24 ∧ (r.tail.takeWhile isLab).any (fun i => decide (i.Arg = argA r 0)) = true then some (0, 1, [])
     else (farM l r).map fun x => (0, 1, x))
  else none
theorem dropWhile_drop {α : Type} p (l : List α) : l.dropWhile p = l.drop (l.takeWhile p).length := by
  grind [List.takeWhile_append_dropWhile]
theorem dropWhile_head {α : Type} {p} : ∀ {l : List α} {x} {r}, l.dropWhile p = x :: r → p x = false
  | [], x, r, h => by simp at h
  | y :: l, x, r, h => by
    rw [List.dropWhile_cons] at h
    split at h
    · exact dropWhile_head h
    · rename_i hy
      simp   at h
      rw [← h.1]; simpa using hy
theorem dead_facts (l : List GIns) k (hk : k ≤ l.length) : k + deadN (l.drop k) ≤ l.length ∧ (∀ i, i < deadN (l.drop k) → k + i < l.length ∧ ¬ (l[k + i]?.getD GIns.zero).Op = 38) ∧ (k + deadN (l.drop k) < l.length → (l[k + deadN (l.drop k)]?.getD GIns.zero).Op = 38) := by
  have h := take_while_len (fun i => !isLab i) (l.drop k)
  have hlen := congrArg List.length h
  have hle : deadN (l.drop k) ≤ l.length - k := by grind [deadN]
  refine ⟨by omega, fun i hi => ?_, fun hlt => ?_⟩
  · have h1  := by omega
    have h2 := takeWhile_all (fun i => !isLab i) (l.drop k)
    have h3 : (l.drop k)[i]? = ((l.drop k).takeWhile fun i => !isLab i)[i]? := by
      conv => lhs; rw [h]
      rw [List.getElem?_append_left hi]
    grind [List.getElem_mem, isLab, List.getElem?_eq_getElem, Bool.not_eq_true', decide_eq_false_iff_not, of_decide_eq_false]
  · have h5 := dropWhile_drop (fun i => !isLab i) (l.drop k)
    have h6 : (l.drop k).dropWhile (fun i => !isLab i) = l.drop (k + deadN (l.drop k)) := by rw [h5, List.drop_drop]; rfl
    have h7  := List.drop_eq_getElem_cons hlt
    rw [h7] at h6
    have h8 := dropWhile_head h6
    rw [List.getElem?_eq_getElem hlt]
    simp  [isLab, Bool.not_eq_false', decide_eq_true_eq] at h8
    exact h8
theorem betterR_eq l r : betterR l r = match reckM r with
  | some y => some (0, y.1, y.2)
  | none => match knownM r with
    | some y => some (0, y.1, y.2)
    | none => match goesR l r with
      | some y => some y
      | none => if opA r 0 = 38 ∧ askedL l (argA r 0) = false then some (0, 1, []) else none := by
  unfold betterR goesR
  grind
end Go.Ab

namespace Go.Ab
open Go.Proofs
theorem swapM_len {l : List GIns} {k n : Nat} {x : List GIns} (h : k + n ≤ l.length) (hx : x.length ≤ n) : (swapM l k n x).length ≤ l.length := by
  unfold swapM
  simp only [List.length_append, List.length_take, List.length_drop]
  omega
theorem opA_drop {l : List GIns} {k j : Nat} (h : opA (l.drop k) j ≠ 0) : k + j < l.length := opA_lt h
theorem betterR_len {l : List GIns} {k : Nat} {y : Nat × Nat × List GIns} (h : betterR l (l.drop k) = some y) : k + y.1 + y.2.1 ≤ l.length ∧ y.2.2.length ≤ y.2.1 := by
  rw [betterR_eq] at h
  cases hr : reckM (l.drop k) with
  | some z =>
    rw [hr] at h
    simp only [Option.some.injEq] at h; subst h
    unfold reckM at hr
    split at hr
    · rename_i hc
      have := opA_drop (l := l) (k := k) (j := 2) (by omega)
      simp only [Option.some.injEq] at hr; subst hr
      exact ⟨by simp only; omega, by simp [pushI]⟩
    · split at hr
      · cases hr
      · have h1 : opA (l.drop k) 1 ≠ 0 → k + 1 < l.length := opA_drop
        split at hr
        · simp only [Option.some.injEq] at hr; subst hr
          exact ⟨by simp only; omega, by simp [pushI]⟩
        · split at hr
          · simp only [Option.some.injEq] at hr; subst hr
            exact ⟨by simp only; omega, by simp [pushI]⟩
          · split at hr
            · simp only [Option.some.injEq] at hr; subst hr
              exact ⟨by simp only; omega, by simp [pushI]⟩
            · cases hr
  | none =>
    rw [hr] at h
    simp only at h
    cases hk : knownM (l.drop k) with
    | some z =>
      rw [hk] at h
      simp only [Option.some.injEq] at h; subst h
      unfold knownM at hk
      have h1 : opA (l.drop k) 1 ≠ 0 → k + 1 < l.length := opA_drop
      split at hk
      · simp only [Option.some.injEq] at hk; subst hk
        exact ⟨by simp only; omega, by simp⟩
      · split at hk
        · split at hk
          · simp only [Option.some.injEq] at hk; subst hk
            exact ⟨by simp only; omega, by simp⟩
          · simp only [Option.some.injEq] at hk; subst hk
            exact ⟨by simp only; omega, by simp⟩
        · split at hk
          · simp only [Option.some.injEq] at hk; subst hk
            exact ⟨by simp only; omega, by simp⟩
          · cases hk
    | none =>
      rw [hk] at h
      simp only at h
      have h0 : opA (l.drop k) 0 ≠ 0 → k + 0 < l.length := opA_drop
      cases hg : goesR l (l.drop k) with
      | some z =>
        rw [hg] at h
        simp only [Option.some.injEq] at h; subst h
        unfold goesR at hg
        split at hg
        · rename_i hc
          simp only [Option.some.injEq] at hg; subst hg
          have : k < l.length := by have := hc.1; unfold endsOp at this; omega
          have hd := (dead_facts l (k + 1) (by omega)).1
          rw [List.tail_drop]
          exact ⟨by simp only; omega, by simp⟩
        · split at hg
          · split at hg
            · simp only [Option.some.injEq] at hg; subst hg
              exact ⟨by simp only; omega, by simp⟩
            · obtain ⟨x, hx, rfl⟩ := Option.map_eq_some_iff.1 hg
              unfold farM at hx
              split at hx
              · cases hx
              · split at hx
                · simp only [Option.some.injEq] at hx; subst hx
                  exact ⟨by simp only; omega, by simp⟩
                · cases hx
          · cases hg
      | none =>
        rw [hg] at h
        simp only at h
        split at h
        · simp only [Option.some.injEq] at h; subst h
          exact ⟨by simp only; omega, by simp⟩
        · cases h
theorem betterM_len {l l' : List GIns} {k : Nat} (h : betterM l k = some l') : l'.length ≤ l.length := by
  obtain ⟨y, hy, rfl⟩ := Option.map_eq_some_iff.1 h
  have := betterR_len hy
  exact swapM_len (by omega) this.2
theorem onceM_len {l l' : List GIns} {n k : Nat} (h : onceM l n k = some l') : l'.length ≤ l.length := by
  obtain ⟨j, _, _, hj⟩ := onceM_some _ _ h
  exact betterM_len hj
theorem onceM_none {l : List GIns} : ∀ (n k : Nat), (∀ j, k ≤ j → j < k + n → betterM l j = none) → onceM l n k = none
  | 0, k, _ => rfl
  | n + 1, k, h => by
    rw [onceM, h k (by omega) (by omega)]
    exact onceM_none n (k + 1) (fun j h1 h2 => h j (by omega) (by omega))
theorem onceM_first {l x : List GIns} {j : Nat} (hx : betterM l j = some x) : ∀ (n k : Nat), k ≤ j → j < k + n → (∀ i, k ≤ i → i < j → betterM l i = none) → onceM l n k = some x
  | 0, k, h1, h2, _ => by omega
  | n + 1, k, h1, h2, h3 => by
    rw [onceM]
    by_cases e : k = j
    · rw [e, hx]
    · rw [h3 k (by omega) (by omega)]
      exact onceM_first hx n (k + 1) (by omega) (by omega) (fun i h4 h5 => h3 i (by omega) h5)
theorem allM_fix {l : List GIns} (h : onceM l l.length 0 = none) : ∀ n, allM n l = l
  | 0 => rfl
  | n + 1 => by rw [allM, h]
theorem allM_succ : ∀ (n : Nat) (l : List GIns), allM (n + 1) l = (onceM (allM n l) (allM n l).length 0).getD (allM n l)
  | 0, l => by
    rw [allM, allM]
    cases onceM l l.length 0 <;> rfl
  | n + 1, l => by
    rw [allM]
    cases h : onceM l l.length 0 with
    | none => simp only; rw [allM_fix h, h]; rfl
    | some x =>
      simp only
      rw [allM_succ n x]
      conv => rhs; rw [allM, h]
theorem allM_len : ∀ (n : Nat) (l : List GIns), (allM n l).length ≤ l.length
  | 0, l => Nat.le_refl _
  | n + 1, l => by
    rw [allM]
    cases h : onceM l l.length 0 with
    | none => exact Nat.le_refl _
    | some x => exact Nat.le_trans (allM_len n x) (onceM_len h)
end Go.Ab

namespace Go.Ab
open Go.Proofs
end Go.Ab

namespace Go.Ab
open Go.Proofs
def encY (l : List Int) : List (List D) := l.map fun c => [.v (.int .u8 c)]
@[simp] theorem encY_length (l : List Int) : (encY l).length = l.length := by simp [encY]
@[simp] theorem encY_append (a b : List Int) : encY a ++ encY b = encY (a ++ b) := by simp [encY]
abbrev bytD (l : List Int) : V := .d (.sl (encY l))
theorem argE_bd (i : GIns) : -32768 ≤ argE i ∧ argE i ≤ 32767 := by
  unfold argE
  split
  · exact wrapM_bd _
  · omega
end Go.Ab

namespace Go.Ab
section
variable {P : Program} {n : Nat} {s : St} {Q : AX → St → Prop} {L : Heap}
end
end Go.Ab

namespace Go.Ab
open Go.Proofs
def atL (z : Zl) (n : Nat) : List Int := (List.range n).map fun i => (lenZ (z.take i) : Int)
theorem atL_succ (z : Zl) (n : Nat) : atL z (n + 1) = atL z n ++ [(lenZ (z.take n) : Int)] := by
  unfold atL; rw [List.range_succ, List.map_append]; rfl
theorem atL_len (z : Zl) (n : Nat) : (atL z n).length = n := by simp [atL]
theorem atL_get (z : Zl) {n k : Nat} (h : k < n) : (atL z n)[k]? = some (lenZ (z.take k) : Int) := by
  simp [atL, h]
theorem lenP_eq (p : GIns × Nat) : lenP p = if jmp p.1.Op = true then 1 + p.2 else (encM p.1).length := by
  unfold lenP
  split
  · rename_i h
    rw [h]
    have : encM p.1 = [] := by unfold encM; rw [if_pos (by omega)]
    rw [this]
    simp [jmp]
  · rfl
theorem encM_len (i : GIns) : (encM i).length ≤ 3 := by
  unfold encM
  split
  · simp
  · have := bytesM_le (argE i)
    simp only [encK, List.length_cons, argB_len _ _ this]; omega
theorem lenP_le (p : GIns × Nat) (h : p.2 ≤ 3) : lenP p ≤ 4 := by
  rw [lenP_eq]
  have := encM_len p.1
  split <;> omega
theorem lenZ_le : ∀ (z : Zl), (∀ p ∈ z, p.2 ≤ 3) → lenZ z ≤ 4 * z.length
  | [], _ => by simp [lenZ]
  | p :: z, h => by
    have h1 := lenZ_le z (fun q hq => h q (by simp [hq]))
    have h2 := lenP_le p (h p (by simp))
    simp only [lenZ, List.map_cons, List.sum_cons, List.length_cons] at h1 ⊢
    omega
theorem lenZ_succ (z : Zl) (i : Nat) (h : i < z.length) : lenZ (z.take (i + 1)) = lenZ (z.take i) + lenP z[i] := by
  unfold lenZ
  rw [List.take_add_one, List.getElem?_eq_getElem h]
  simp only [Option.toList, List.map_append, List.sum_append, List.map_cons, List.map_nil, List.sum_cons, List.sum_nil, Nat.add_zero]
end Go.Ab

namespace Go.Ab
open Go.Proofs
end Go.Ab

namespace Go.Ab
open Go.Proofs
theorem zipZ_fst (l : List GIns) : (zipZ l).map Prod.fst = l := by unfold zipZ; rw [List.map_map]; exact List.map_id l
theorem zipZ_ok (l : List GIns) : ∀ p ∈ zipZ l, szOk p := by
  intro p hp
  unfold zipZ at hp
  obtain ⟨i, _, rfl⟩ := List.mem_map.1 hp
  exact ⟨by simp, fun _ => by simp⟩
end Go.Ab

namespace Go.Ab
open Go.Proofs
end Go.Ab

namespace Go.Ab
open Go.Proofs
end Go.Ab

namespace Go.Ab
open Go.Proofs
theorem codeP_enc {w : Zl} {k : Nat} {p : GIns × Nat} (h : jmp p.1.Op = false) : codeP w k p = encM p.1 := by
  unfold codeP
  split
  · rename_i h38
    unfold encM; rw [if_pos (by omega)]
  · rw [if_neg (by rw [h]; simp)]
theorem codeP_jmp {w : Zl} {k : Nat} {p : GIns × Nat} (h : jmp p.1.Op = true) : codeP w k p = encK p.1.Op (farZ w p.1.Arg (k + lenP p)) p.2 := by
  unfold codeP
  rw [if_neg (fun h38 => by rw [h38] at h; cases h), if_pos h]
theorem codeP_le (w : Zl) (k : Nat) (p : GIns × Nat) : (codeP w k p).length ≤ 3 := by
  by_cases h : jmp p.1.Op = true
  · rw [codeP_jmp h, encK, List.length_cons]
    have : (argB (farZ w p.1.Arg (k + lenP p)) p.2).length ≤ 2 := by
      match p.2 with
      | 0 => simp [argB]
      | 1 => simp [argB]
      | n + 2 => simp [argB]
    omega
  · rw [codeP_enc (by simpa using h)]; exact encM_len _
theorem codeZ_le (w : Zl) : ∀ (k : Nat) (z : Zl), (codeZ w k z).length ≤ 3 * z.length
  | k, [] => by simp [codeZ]
  | k, p :: z => by
    have := codeZ_le w (k + lenP p) z
    have := codeP_le w k p
    rw [codeZ, List.length_append, List.length_cons]; omega
theorem encY_one (l : List Int) : ∀ x ∈ encY l, x.length = 1 := by
  intro x hx
  obtain ⟨c, _, rfl⟩ := List.mem_map.1 hx
  rfl
end Go.Ab

namespace Go.Ab
open Go.Proofs
theorem bound_logic {t : GTables} {locals : Int} {e : GExpr} (h : boundM t locals e false = true) (hk : e.Kind = 6) : ∃ a b, e.Args = [a, b] := by
  rw [boundM_eq, Bool.and_eq_true] at h
  have h1 := h.1
  simp [boundK, hk, bareM] at h1
  have hl : e.Args.length = 2 := by omega
  generalize e.Args = l at hl
  match l, hl with
  | [a, b], _ => exact ⟨a, b, rfl⟩
theorem bound_mem {t : GTables} {locals : Int} {e x : GExpr} {said : Bool} (h : boundM t locals e said = true) (hx : x ∈ e.Args) : boundM t locals x false = true := by
  rw [boundM_eq, Bool.and_eq_true, boundsM_all, List.all_eq_true] at h
  exact h.2 x hx
end Go.Ab

namespace Go.Ab
open Go.Proofs
def wb (b : Nat) (l : List GIns) (n : Int) : Heap := [(5001, .box (b + 1) 125 [.rv 5002, .d (.v (.int .i64 n))]), (5002, .row 116 2 (dd (l.map GIns.enc)))]
def WCalls (f : FuncId) (args : List V) (b : Nat) (l : List GIns) (n : Int) (x : V) (l' : List GIns) (n' : Int) : Prop := ACalls Tryz.prog f (.bp 5001 0 :: args) (wb b l n) (fun r L => r = .ret x ∧ L = wb b l' n')
theorem wlabel_ok (b : Nat) (l : List GIns) (n : Int) (hn : 0 ≤ n ∧ n ≤ 1000000000000) : WCalls 202 [] b l n (.d (.v (.int .i64 n))) l (n + 1) := by
  unfold WCalls wb
  refine ACalls.run Tryz.func202 rfl (by simp [Tryz.f202]) ?_; simp [Tryz.f202]
  rw [inR_i64, inR_i64]; omega
theorem lay0_ok (b : Nat) (l : List GIns) (n : Int) (op : Int) (hl : l.length ≤ 1000000000000) : WCalls 90 [.d (.v (.int .i64 op)), .d (.v (.slice none 0 0))] b l n (.tup []) (l ++ [⟨op, 0⟩]) n := by
  unfold WCalls wb
  refine ACalls.runP [5001, 5002] (by simp) Tryz.func90 rfl (by simp [Tryz.f90]) ?_; simp [Tryz.f90]
  intro bs
  refine AWP.loopS [0, 6, 11, 12, 13] 0 (fun i => []) (fun _ => []) (fun _ => True) (by rfl) (by simp) ?_
  intro i hi _
  obtain rfl : i = 0 := by omega
  simp
  refine AWP.regionM0 [some (0, 2), some (0, 1), some (0, 1), some (0, 1), some (0, 1), some (0, 0), none, none, some (2, 2), some (2, 2), none] [] Tryz.mixed (by kernel_rfl) ?_
  simp
  exact ⟨by omega, by simp [dd, GIns.enc]⟩
theorem lay1_ok (b : Nat) (l : List GIns) (n : Int) (op x : Int) (hl : l.length ≤ 1000000000000) : WCalls 90 [.d (.v (.int .i64 op)), .d (.sl (encI [x]))] b l n (.tup []) (l ++ [⟨op, x⟩]) n := by
  unfold WCalls wb
  refine ACalls.runP [5001, 5002] (by simp) Tryz.func90 rfl (by simp [Tryz.f90]) ?_; simp [Tryz.f90]
  intro bs
  refine AWP.loopS [0, 6, 11, 12, 13] 1 (fun i => [(13, .d (.v (.int .i64 i)))]) (fun i => [(6, .box (bs 0 + 1) 116 [.d (.v (.int .i64 op)), .d (.v (.int .i64 (if i = 0 then 0 else x)))])]) (fun _ => True) (by rfl) (by simp) ?_
  intro i hi _
  rcases Nat.lt_or_eq_of_le hi with hlt | rfl
  · obtain rfl : i = 0 := by omega
    simp
    rw [inR_i64]; omega
  · simp
    refine AWP.regionM0 [some (0, 2), some (0, 1), some (0, 1), some (0, 1), some (0, 1), some (0, 0), none, none, some (2, 2), some (2, 2), none] [] Tryz.mixed (by kernel_rfl) ?_
    simp
    exact ⟨by omega, by simp [dd, GIns.enc]⟩
theorem two_ok (b : Nat) (l : List GIns) (n : Int) (hn : 0 ≤ n ∧ n ≤ 999999999999) : WCalls 203 [] b l n (.tup [.d (.v (.int .i64 n)), .d (.v (.int .i64 (n + 1)))]) l (n + 2) := by
  have h2 := wlabel_ok b l (n + 1) (by omega)
  rw [show n + 1 + 1 = n + 2 by omega] at h2
  unfold WCalls wb
  refine ACalls.run Tryz.func203 rfl (by simp [Tryz.f203]) ?_; simp [Tryz.f203]
  refine AOps.effD [5001, 5002] rfl (wlabel_ok b l n (by omega)) (by simp [wb]) rfl (by simp) rfl (by kernel_rfl) (by simp [wb]) (by simp [wb]) (by simp [wb]) (by simp [wb]) (by simp [wb]) ?_
  simp
  refine AOps.effD [5001, 5002] rfl (h2) (by simp [wb]) rfl (by simp) rfl (by kernel_rfl) (by simp [wb]) (by simp [wb]) (by simp [wb]) (by simp [wb]) (by simp [wb]) ?_
  simp [wb]
end Go.Ab

namespace Go.Ab
open Go.Proofs
def WExpr (x : GExpr) : Prop := ∀ (b : Nat) (l : List GIns) (n : Int), 0 ≤ n ∧ n + 2 * szE x ≤ 1000000000 ∧ l.length + 6 * szE x ≤ 100000000000 →
  WCalls 204 [.agg (x.enc.map .d)] b l n (.tup []) (l ++ (genE x n).1) (genE x n).2
theorem wexprs_of (es : List GExpr) (hes : es.length ≤ 2199023255488) (b : Nat) (l : List GIns) (n : Int) (hn : 0 ≤ n ∧ n + 2 * szEs es ≤ 1000000000 ∧ l.length + 6 * szEs es ≤ 100000000000) (ih : ∀ x ∈ es, WExpr x) :
    WCalls 200 [.d (.sl (es.map GExpr.enc))] b l n (.tup []) (l ++ (genEs es n).1) (genEs es n).2 := by
  have hbd := fun i => genEs_bd (es.take i) (fun x _ m => genE_bd x m) n
  have hszs : ∀ i, szEs (es.take i) ≤ szEs es := fun i => by
    have := szEs_app (es.take i) (es.drop i); rw [List.take_append_drop] at this; omega
  unfold WCalls wb
  refine ACalls.runP [5001, 5002] (by simp) Tryz.func200 rfl (by simp [Tryz.f200]) ?_; simp [Tryz.f200]
  refine AWP.loopS [0, 6, 7, 8] es.length (fun i => [(8, .d (.v (.int .i64 i)))]) (fun i => [(5001, .box (b + 1) 125 [.rv 5002, .d (.v (.int .i64 (genEs (es.take i) n).2))]), (5002, .row 116 2 (dd ((l ++ (genEs (es.take i) n).1).map GIns.enc)))]) (fun _ => True) (by rfl) (by simp [genEs]) ?_
  intro i hi _
  rcases Nat.lt_or_eq_of_le hi with hlt | rfl
  · have hge : es[i]? = some es[i] := List.getElem?_eq_getElem hlt
    have htk : List.take (i + 1) es = List.take i es ++ [es[i]] := by rw [List.take_add_one, hge]; rfl
    have hS := ih es[i] (List.getElem_mem hlt)
    have hsn := genEs_snoc (es.take i) es[i] n
    have hsz := szEs_app (es.take i) [es[i]]
    rw [← htk] at hsn hsz
    simp only [szEs] at hsz
    have h0 := hszs (i + 1)
    have h1 := hbd i
    generalize hE : es[i] = x at *
    generalize hM : genEs (es.take i) n = k at *
    generalize hM' : genEs (es.take (i + 1)) n = k' at *
    obtain ⟨k1, k2⟩ := k
    simp only at hsn h1
    have a4 : inR .i64 ((i : Int) + 1) := by rw [inR_i64]; omega
    have hC := hS b (l ++ k1) k2 ⟨by omega, by omega, by rw [List.length_append]; omega⟩
    generalize genE x k2 = q at *
    obtain ⟨q1, q2⟩ := q
    simp [hlt, hge, hE]
    intro bs
    refine AOps.effD [5001, 5002] rfl (hC) (by simp [wb]) rfl (by simp) rfl (by kernel_rfl) (by simp [wb]) (by simp [wb]) (by simp [wb]) (by simp [wb]) (by simp [wb]) ?_
    simp [hM', hsn, a4, hlt, wb]
  · simp
end Go.Ab

namespace Go.Ab
open Go.Proofs
def lb (b2 b3 : Nat) (e : GExpr) : Heap := [(3, .box (b3 + 1) 75 (e.enc.map .d)), (2, .box (b2 + 1) 123 [.bp 5001 0])]
theorem right_of (b2 b3 : Nat) (e x y : GExpr) (hA : e.Args = [x, y]) (b : Nat) (l : List GIns) (n : Int) (hn : 0 ≤ n ∧ n + 2 * szE y ≤ 1000000000 ∧ l.length + 6 * szE y ≤ 100000000000) (hy : WExpr y) :
    ACalls Tryz.prog 211 [.bp 2 0, .bp 3 0] (wb b l n ++ lb b2 b3 e) (fun r L => r = .ret (.tup []) ∧ L = wb b (l ++ (genE y n).1 ++ [⟨11, 0⟩]) (genE y n).2 ++ lb b2 b3 e) := by
  have hC := hy b l n hn
  have hbd := genE_bd y n
  generalize genE y n = q at *
  obtain ⟨q1, q2⟩ := q
  simp only at hC hbd ⊢
  unfold lb wb
  refine ACalls.runP [5001, 5002, 3, 2] (by simp) Tryz.func211 rfl (by simp [Tryz.f211]) ?_; simp [Tryz.f211]
  refine AWP.regionM0 [some (0, 0), some (0, 0), some (0, 0), some (0, 0), some (0, 0), none] [] Tryz.mixed (by kernel_rfl) ?_
  simp [hA]
  refine EffM.intro (fun _ => LOp.call 5002 [5001, 5002] rfl (hC) (by simp [wb]) rfl (by kernel_rfl) (by simp [wb]) (by simp [wb]) (by simp +contextual [wb]) (by simp [wb]) (by simp [wb])) ?_
  simp [wb]
  refine AOps.effD [5001, 5002] rfl (lay0_ok b (l ++ q1) q2 11 (by rw [List.length_append] <;> omega)) (by simp [wb]) rfl (by simp) rfl (by kernel_rfl) (by simp [wb]) (by simp [wb]) (by simp [wb]) (by simp [wb]) (by simp [wb]) ?_
  simp [wb]
theorem wlogic_of (e x y : GExpr) (hk : e.Kind = 6) (ho : e.Op = 1 ∨ e.Op = 2) (hA : e.Args = [x, y]) (hx : WExpr x) (hy : WExpr y) (b : Nat) (l : List GIns) (n : Int) (hn : 0 ≤ n ∧ n + 2 * szE e ≤ 1000000000 ∧ l.length + 6 * szE e ≤ 100000000000) :
    WCalls 209 [.agg (e.enc.map .d)] b l n (.tup []) (l ++ (genE e n).1) (genE e n).2 := by
  have hz := szE_eq e
  rw [hA] at hz
  simp only [szEs] at hz
  have ba := genE_bd x (n + 2)
  have bb := genE_bd y (genE x (n + 2)).2
  have ca := hx b l (n + 2) ⟨by omega, by omega, by omega⟩
  have a1 : inR .i64 (n + 1) := by rw [inR_i64]; omega
  rcases ho with ho | ho
  · rw [genE_or e x y [] n hk ho hA]
    generalize genE x (n + 2) = p at *
    obtain ⟨p1, p2⟩ := p
    simp only at ba bb ca ⊢
    have hR := fun b2 b3 l h => right_of b2 b3 e x y hA b l p2 h hy
    generalize genE y p2 = q at *
    obtain ⟨q1, q2⟩ := q
    simp only at bb hR ⊢
    unfold WCalls wb
    refine ACalls.runP [5001, 5002] (by simp) Tryz.func209 rfl (by simp [Tryz.f209]) ?_; simp [Tryz.f209]
    intro bs
    refine AOps.effD [5001, 5002] rfl (two_ok b l n (by omega)) (by simp [wb]) rfl (by simp) rfl (by kernel_rfl) (by simp [wb]) (by simp [wb]) (by simp [wb]) (by simp [wb]) (by simp [wb]) ?_
    simp [wb]
    refine AWP.regionM0 [some (0, 0), some (0, 0), some (0, 0), some (0, 0), some (0, 0), none] [] Tryz.mixed (by kernel_rfl) ?_
    simp [hA]
    refine EffM.intro (fun _ => LOp.call 5002 [5001, 5002] rfl (ca) (by simp [wb]) rfl (by kernel_rfl) (by simp [wb]) (by simp [wb]) (by simp +contextual [wb]) (by simp [wb]) (by simp [wb])) ?_
    simp [wb]
    refine AOps.weaken (Wk.freeze 20 (ys := encI [n]) rfl) ?_
    simp
    refine AOps.effD [5001, 5002] rfl (lay1_ok b (l ++ p1) p2 25 (n) (by simp <;> omega)) (by simp [wb]) rfl (by simp) rfl (by kernel_rfl) (by simp [wb]) (by simp [wb]) (by simp [wb]) (by simp [wb]) (by simp [wb]) ?_
    simp [wb, ho, a1]
    refine AOps.weaken (Wk.freeze 27 (ys := encI [1]) rfl) ?_
    simp
    refine AOps.effD [5001, 5002] rfl (lay1_ok b (l ++ p1 ++ [GIns.mk 25 n]) p2 1 (1) (by simp <;> omega)) (by simp [wb]) rfl (by simp) rfl (by kernel_rfl) (by simp [wb]) (by simp [wb]) (by simp [wb]) (by simp [wb]) (by simp [wb]) ?_
    simp [wb, ho, a1]
    refine AOps.weaken (Wk.freeze 33 (ys := encI [(n+1)]) rfl) ?_
    simp
    refine AOps.effD [5001, 5002] rfl (lay1_ok b (l ++ p1 ++ [GIns.mk 25 n] ++ [GIns.mk 1 1]) p2 24 ((n+1)) (by simp <;> omega)) (by simp [wb]) rfl (by simp) rfl (by kernel_rfl) (by simp [wb]) (by simp [wb]) (by simp [wb]) (by simp [wb]) (by simp [wb]) ?_
    simp [wb, ho, a1]
    refine AOps.weaken (Wk.freeze 37 (ys := encI [n]) rfl) ?_
    simp
    refine AOps.effD [5001, 5002] rfl (lay1_ok b (l ++ p1 ++ [GIns.mk 25 n] ++ [GIns.mk 1 1] ++ [GIns.mk 24 (n+1)]) p2 38 (n) (by simp <;> omega)) (by simp [wb]) rfl (by simp) rfl (by kernel_rfl) (by simp [wb]) (by simp [wb]) (by simp [wb]) (by simp [wb]) (by simp [wb]) ?_
    simp [wb, ho, a1]
    refine AOps.effD [5001, 5002, 3, 2] rfl (hR (bs 0) (bs 1) (l ++ p1 ++ [GIns.mk 25 n] ++ [GIns.mk 1 1] ++ [GIns.mk 24 (n+1)] ++ [GIns.mk 38 n]) ⟨by omega, by omega, by simp <;> omega⟩) (by simp [wb]) rfl (by simp) rfl (by kernel_rfl) (by simp [wb, lb]) (by simp [wb, lb]) (by simp [wb, lb]) (by simp [wb, lb]) (by simp [wb, lb]) ?_
    simp [wb, lb, ho, a1]
    refine AOps.weaken (Wk.freeze 48 (ys := encI [(n+1)]) rfl) ?_
    simp
    refine AOps.effD [5001, 5002] rfl (lay1_ok b (l ++ p1 ++ [GIns.mk 25 n] ++ [GIns.mk 1 1] ++ [GIns.mk 24 (n+1)] ++ [GIns.mk 38 n] ++ q1 ++ [GIns.mk 11 0]) q2 38 ((n+1)) (by simp <;> omega)) (by simp [wb]) rfl (by simp) rfl (by kernel_rfl) (by simp [wb]) (by simp [wb]) (by simp [wb]) (by simp [wb]) (by simp [wb]) ?_
    simp [wb, ho, a1]
  · rw [genE_and e x y [] n hk ho hA]
    generalize genE x (n + 2) = p at *
    obtain ⟨p1, p2⟩ := p
    simp only at ba bb ca ⊢
    have hR := fun b2 b3 l h => right_of b2 b3 e x y hA b l p2 h hy
    generalize genE y p2 = q at *
    obtain ⟨q1, q2⟩ := q
    simp only at bb hR ⊢
    unfold WCalls wb
    refine ACalls.runP [5001, 5002] (by simp) Tryz.func209 rfl (by simp [Tryz.f209]) ?_; simp [Tryz.f209]
    intro bs
    refine AOps.effD [5001, 5002] rfl (two_ok b l n (by omega)) (by simp [wb]) rfl (by simp) rfl (by kernel_rfl) (by simp [wb]) (by simp [wb]) (by simp [wb]) (by simp [wb]) (by simp [wb]) ?_
    simp [wb]
    refine AWP.regionM0 [some (0, 0), some (0, 0), some (0, 0), some (0, 0), some (0, 0), none] [] Tryz.mixed (by kernel_rfl) ?_
    simp [hA]
    refine EffM.intro (fun _ => LOp.call 5002 [5001, 5002] rfl (ca) (by simp [wb]) rfl (by kernel_rfl) (by simp [wb]) (by simp [wb]) (by simp +contextual [wb]) (by simp [wb]) (by simp [wb])) ?_
    simp [wb]
    refine AOps.weaken (Wk.freeze 20 (ys := encI [n]) rfl) ?_
    simp
    refine AOps.effD [5001, 5002] rfl (lay1_ok b (l ++ p1) p2 25 (n) (by simp <;> omega)) (by simp [wb]) rfl (by simp) rfl (by kernel_rfl) (by simp [wb]) (by simp [wb]) (by simp [wb]) (by simp [wb]) (by simp [wb]) ?_
    simp [wb, ho, a1]
    refine AOps.effD [5001, 5002, 3, 2] rfl (hR (bs 0) (bs 1) (l ++ p1 ++ [GIns.mk 25 n]) ⟨by omega, by omega, by simp <;> omega⟩) (by simp [wb]) rfl (by simp) rfl (by kernel_rfl) (by simp [wb, lb]) (by simp [wb, lb]) (by simp [wb, lb]) (by simp [wb, lb]) (by simp [wb, lb]) ?_
    simp [wb, lb, ho, a1]
    refine AOps.weaken (Wk.freeze 33 (ys := encI [(n+1)]) rfl) ?_
    simp
    refine AOps.effD [5001, 5002] rfl (lay1_ok b (l ++ p1 ++ [GIns.mk 25 n] ++ q1 ++ [GIns.mk 11 0]) q2 24 ((n+1)) (by simp <;> omega)) (by simp [wb]) rfl (by simp) rfl (by kernel_rfl) (by simp [wb]) (by simp [wb]) (by simp [wb]) (by simp [wb]) (by simp [wb]) ?_
    simp [wb, ho, a1]
    refine AOps.weaken (Wk.freeze 37 (ys := encI [n]) rfl) ?_
    simp
    refine AOps.effD [5001, 5002] rfl (lay1_ok b (l ++ p1 ++ [GIns.mk 25 n] ++ q1 ++ [GIns.mk 11 0] ++ [GIns.mk 24 (n+1)]) q2 38 (n) (by simp <;> omega)) (by simp [wb]) rfl (by simp) rfl (by kernel_rfl) (by simp [wb]) (by simp [wb]) (by simp [wb]) (by simp [wb]) (by simp [wb]) ?_
    simp [wb, ho, a1]
    refine AOps.effD [5001, 5002] rfl (lay0_ok b (l ++ p1 ++ [GIns.mk 25 n] ++ q1 ++ [GIns.mk 11 0] ++ [GIns.mk 24 (n+1)] ++ [GIns.mk 38 n]) q2 1 (by simp <;> omega)) (by simp [wb]) rfl (by simp) rfl (by kernel_rfl) (by simp [wb]) (by simp [wb]) (by simp [wb]) (by simp [wb]) (by simp [wb]) ?_
    simp [wb, ho, a1]
    refine AOps.weaken (Wk.freeze 48 (ys := encI [(n+1)]) rfl) ?_
    simp
    refine AOps.effD [5001, 5002] rfl (lay1_ok b (l ++ p1 ++ [GIns.mk 25 n] ++ q1 ++ [GIns.mk 11 0] ++ [GIns.mk 24 (n+1)] ++ [GIns.mk 38 n] ++ [GIns.mk 1 0]) q2 38 ((n+1)) (by simp <;> omega)) (by simp [wb]) rfl (by simp) rfl (by kernel_rfl) (by simp [wb]) (by simp [wb]) (by simp [wb]) (by simp [wb]) (by simp [wb]) ?_
    simp [wb, ho, a1]
end Go.Ab

namespace Go.Ab
open Go.Proofs
theorem bound_kind {t : GTables} {locals : Int} {e : GExpr} (h : boundM t locals e false = true) : e.Kind = 1 ∨ e.Kind = 14 ∨ e.Kind = 15 ∨ e.Kind = 12 ∨ e.Kind = 4 ∨ e.Kind = 5 ∨ e.Kind = 11 ∨ e.Kind = 6 ∨ e.Kind = 16 ∨ e.Kind = 17 ∨ e.Kind = 18 ∨ e.Kind = 10 := by
  rw [boundM_eq, Bool.and_eq_true] at h
  have h1 := h.1
  refine Decidable.byContradiction fun hn => ?_
  simp only [not_or] at hn
  obtain ⟨n0, n1, n2, n3, n4, n5, n6, n7, n8, n9, n10, n11⟩ := hn
  simp [boundK, n0, n1, n2, n3, n4, n5, n6, n7, n8, n9, n10, n11] at h1
set_option maxRecDepth 20000 in
set_option maxHeartbeats 4000000 in
theorem wplain_of (t : GTables) (locals : Int) (e : GExpr) (he : e.wf) (hb : boundM t locals e false = true) (hL : ¬ logicE e) (hs : ∀ x ∈ e.Args, WExpr x) : WExpr e := by
  intro b l n hn
  have hz := szE_eq e
  have hw := (GExpr.wf_iff e).1 he
  have hlen : e.Args.length ≤ 2199023255488 := by omega
  have bd := genEs_bd e.Args (fun x _ m => genE_bd x m) n
  have hc := wexprs_of e.Args hlen b l n ⟨by omega, by omega, by omega⟩ hs
  have hkd := bound_kind hb
  rw [genE_plain e n hL]
  generalize genEs e.Args n = p at *
  obtain ⟨p1, p2⟩ := p
  simp only at bd hc ⊢
  rcases hkd with hk | hk | hk | hk | hk | hk | hk | hk | hk | hk | hk | hk
  · have hO : ownM e = ⟨1, e.Num⟩ := by simp [ownM, hk]
    rw [hO]
    unfold WCalls wb
    refine ACalls.runP [5001, 5002] (by simp) Tryz.func204 rfl (by simp [Tryz.f204]) ?_; simp [Tryz.f204, hk]
    intro bs
    refine AOps.effD [5001, 5002] rfl (hc) (by simp [wb]) rfl (by simp) rfl (by kernel_rfl) (by simp [wb]) (by simp [wb]) (by simp [wb]) (by simp [wb]) (by simp [wb]) ?_
    simp [wb, hk]
    refine AOps.weaken (Wk.freeze 31 (ys := encI [e.Num]) rfl) ?_
    simp
    refine AOps.effD [5001, 5002] rfl (lay1_ok b (l ++ p1) p2 1 e.Num (by simp <;> omega)) (by simp [wb]) rfl (by simp) rfl (by kernel_rfl) (by simp [wb]) (by simp [wb]) (by simp [wb]) (by simp [wb]) (by simp [wb]) ?_
    simp [wb]
  · have hO : ownM e = ⟨3, e.Num⟩ := by simp [ownM, hk]
    rw [hO]
    unfold WCalls wb
    refine ACalls.runP [5001, 5002] (by simp) Tryz.func204 rfl (by simp [Tryz.f204]) ?_; simp [Tryz.f204, hk]
    intro bs
    refine AOps.effD [5001, 5002] rfl (hc) (by simp [wb]) rfl (by simp) rfl (by kernel_rfl) (by simp [wb]) (by simp [wb]) (by simp [wb]) (by simp [wb]) (by simp [wb]) ?_
    simp [wb, hk]
    refine AOps.weaken (Wk.freeze 38 (ys := encI [e.Num]) rfl) ?_
    simp
    refine AOps.effD [5001, 5002] rfl (lay1_ok b (l ++ p1) p2 3 e.Num (by simp <;> omega)) (by simp [wb]) rfl (by simp) rfl (by kernel_rfl) (by simp [wb]) (by simp [wb]) (by simp [wb]) (by simp [wb]) (by simp [wb]) ?_
    simp [wb]
  · have hO : ownM e = ⟨5, e.Num⟩ := by simp [ownM, hk]
    rw [hO]
    unfold WCalls wb
    refine ACalls.runP [5001, 5002] (by simp) Tryz.func204 rfl (by simp [Tryz.f204]) ?_; simp [Tryz.f204, hk]
    intro bs
    refine AOps.effD [5001, 5002] rfl (hc) (by simp [wb]) rfl (by simp) rfl (by kernel_rfl) (by simp [wb]) (by simp [wb]) (by simp [wb]) (by simp [wb]) (by simp [wb]) ?_
    simp [wb, hk]
    refine AOps.weaken (Wk.freeze 45 (ys := encI [e.Num]) rfl) ?_
    simp
    refine AOps.effD [5001, 5002] rfl (lay1_ok b (l ++ p1) p2 5 e.Num (by simp <;> omega)) (by simp [wb]) rfl (by simp) rfl (by kernel_rfl) (by simp [wb]) (by simp [wb]) (by simp [wb]) (by simp [wb]) (by simp [wb]) ?_
    simp [wb]
  · have hO : ownM e = ⟨7, e.Op⟩ := by simp [ownM, hk]
    rw [hO]
    unfold WCalls wb
    refine ACalls.runP [5001, 5002] (by simp) Tryz.func204 rfl (by simp [Tryz.f204]) ?_; simp [Tryz.f204, hk]
    intro bs
    refine AOps.effD [5001, 5002] rfl (hc) (by simp [wb]) rfl (by simp) rfl (by kernel_rfl) (by simp [wb]) (by simp [wb]) (by simp [wb]) (by simp [wb]) (by simp [wb]) ?_
    simp [wb, hk]
    refine AOps.weaken (Wk.freeze 52 (ys := encI [e.Op]) rfl) ?_
    simp
    refine AOps.effD [5001, 5002] rfl (lay1_ok b (l ++ p1) p2 7 e.Op (by simp <;> omega)) (by simp [wb]) rfl (by simp) rfl (by kernel_rfl) (by simp [wb]) (by simp [wb]) (by simp [wb]) (by simp [wb]) (by simp [wb]) ?_
    simp [wb]
  · have hO : ownM e = ⟨9, 0⟩ := by simp [ownM, hk]
    rw [hO]
    unfold WCalls wb
    refine ACalls.runP [5001, 5002] (by simp) Tryz.func204 rfl (by simp [Tryz.f204]) ?_; simp [Tryz.f204, hk]
    intro bs
    refine AOps.effD [5001, 5002] rfl (hc) (by simp [wb]) rfl (by simp) rfl (by kernel_rfl) (by simp [wb]) (by simp [wb]) (by simp [wb]) (by simp [wb]) (by simp [wb]) ?_
    simp [wb, hk]
    refine AOps.effD [5001, 5002] rfl (lay0_ok b (l ++ p1) p2 9 (by simp <;> omega)) (by simp [wb]) rfl (by simp) rfl (by kernel_rfl) (by simp [wb]) (by simp [wb]) (by simp [wb]) (by simp [wb]) (by simp [wb]) ?_
    simp [wb]
  · have hO : ownM e = ⟨10, 0⟩ := by simp [ownM, hk]
    rw [hO]
    unfold WCalls wb
    refine ACalls.runP [5001, 5002] (by simp) Tryz.func204 rfl (by simp [Tryz.f204]) ?_; simp [Tryz.f204, hk]
    intro bs
    refine AOps.effD [5001, 5002] rfl (hc) (by simp [wb]) rfl (by simp) rfl (by kernel_rfl) (by simp [wb]) (by simp [wb]) (by simp [wb]) (by simp [wb]) (by simp [wb]) ?_
    simp [wb, hk]
    refine AOps.effD [5001, 5002] rfl (lay0_ok b (l ++ p1) p2 10 (by simp <;> omega)) (by simp [wb]) rfl (by simp) rfl (by kernel_rfl) (by simp [wb]) (by simp [wb]) (by simp [wb]) (by simp [wb]) (by simp [wb]) ?_
    simp [wb]
  · have hO : ownM e = ⟨20, 0⟩ := by simp [ownM, hk]
    rw [hO]
    unfold WCalls wb
    refine ACalls.runP [5001, 5002] (by simp) Tryz.func204 rfl (by simp [Tryz.f204]) ?_; simp [Tryz.f204, hk]
    intro bs
    refine AOps.effD [5001, 5002] rfl (hc) (by simp [wb]) rfl (by simp) rfl (by kernel_rfl) (by simp [wb]) (by simp [wb]) (by simp [wb]) (by simp [wb]) (by simp [wb]) ?_
    simp [wb, hk]
    refine AOps.effD [5001, 5002] rfl (lay0_ok b (l ++ p1) p2 20 (by simp <;> omega)) (by simp [wb]) rfl (by simp) rfl (by kernel_rfl) (by simp [wb]) (by simp [wb]) (by simp [wb]) (by simp [wb]) (by simp [wb]) ?_
    simp [wb]
  · have hO : ownM e = ⟨8, e.Op⟩ := by simp [ownM, hk]
    rw [hO]
    have h1 : ¬ e.Op = 1 := fun h => hL ⟨hk, .inl h⟩
    have h2 : ¬ e.Op = 2 := fun h => hL ⟨hk, .inr h⟩
    unfold WCalls wb
    refine ACalls.runP [5001, 5002] (by simp) Tryz.func204 rfl (by simp [Tryz.f204]) ?_; simp [Tryz.f204, hk, h1, h2]
    intro bs
    refine AOps.effD [5001, 5002] rfl (hc) (by simp [wb]) rfl (by simp) rfl (by kernel_rfl) (by simp [wb]) (by simp [wb]) (by simp [wb]) (by simp [wb]) (by simp [wb]) ?_
    simp [wb, hk, h1, h2]
    refine AOps.weaken (Wk.freeze 71 (ys := encI [e.Op]) rfl) ?_
    simp
    refine AOps.effD [5001, 5002] rfl (lay1_ok b (l ++ p1) p2 8 e.Op (by simp <;> omega)) (by simp [wb]) rfl (by simp) rfl (by kernel_rfl) (by simp [wb]) (by simp [wb]) (by simp [wb]) (by simp [wb]) (by simp [wb]) ?_
    simp [wb]
  · have hO : ownM e = ⟨12, e.Num⟩ := by simp [ownM, hk]
    rw [hO]
    unfold WCalls wb
    refine ACalls.runP [5001, 5002] (by simp) Tryz.func204 rfl (by simp [Tryz.f204]) ?_; simp [Tryz.f204, hk]
    intro bs
    refine AOps.effD [5001, 5002] rfl (hc) (by simp [wb]) rfl (by simp) rfl (by kernel_rfl) (by simp [wb]) (by simp [wb]) (by simp [wb]) (by simp [wb]) (by simp [wb]) ?_
    simp [wb, hk]
    refine AOps.weaken (Wk.freeze 78 (ys := encI [e.Num]) rfl) ?_
    simp
    refine AOps.effD [5001, 5002] rfl (lay1_ok b (l ++ p1) p2 12 e.Num (by simp <;> omega)) (by simp [wb]) rfl (by simp) rfl (by kernel_rfl) (by simp [wb]) (by simp [wb]) (by simp [wb]) (by simp [wb]) (by simp [wb]) ?_
    simp [wb]
  · have hO : ownM e = ⟨13, e.Num⟩ := by simp [ownM, hk]
    rw [hO]
    unfold WCalls wb
    refine ACalls.runP [5001, 5002] (by simp) Tryz.func204 rfl (by simp [Tryz.f204]) ?_; simp [Tryz.f204, hk]
    intro bs
    refine AOps.effD [5001, 5002] rfl (hc) (by simp [wb]) rfl (by simp) rfl (by kernel_rfl) (by simp [wb]) (by simp [wb]) (by simp [wb]) (by simp [wb]) (by simp [wb]) ?_
    simp [wb, hk]
    refine AOps.weaken (Wk.freeze 85 (ys := encI [e.Num]) rfl) ?_
    simp
    refine AOps.effD [5001, 5002] rfl (lay1_ok b (l ++ p1) p2 13 e.Num (by simp <;> omega)) (by simp [wb]) rfl (by simp) rfl (by kernel_rfl) (by simp [wb]) (by simp [wb]) (by simp [wb]) (by simp [wb]) (by simp [wb]) ?_
    simp [wb]
  · have hO : ownM e = ⟨26, e.Num⟩ := by simp [ownM, hk]
    rw [hO]
    unfold WCalls wb
    refine ACalls.runP [5001, 5002] (by simp) Tryz.func204 rfl (by simp [Tryz.f204]) ?_; simp [Tryz.f204, hk]
    intro bs
    refine AOps.effD [5001, 5002] rfl (hc) (by simp [wb]) rfl (by simp) rfl (by kernel_rfl) (by simp [wb]) (by simp [wb]) (by simp [wb]) (by simp [wb]) (by simp [wb]) ?_
    simp [wb, hk]
    refine AOps.weaken (Wk.freeze 92 (ys := encI [e.Num]) rfl) ?_
    simp
    refine AOps.effD [5001, 5002] rfl (lay1_ok b (l ++ p1) p2 26 e.Num (by simp <;> omega)) (by simp [wb]) rfl (by simp) rfl (by kernel_rfl) (by simp [wb]) (by simp [wb]) (by simp [wb]) (by simp [wb]) (by simp [wb]) ?_
    simp [wb]
  · have hO : ownM e = ⟨19, e.Op⟩ := by simp [ownM, hk]
    rw [hO]
    unfold WCalls wb
    refine ACalls.runP [5001, 5002] (by simp) Tryz.func204 rfl (by simp [Tryz.f204]) ?_; simp [Tryz.f204, hk]
    intro bs
    refine AOps.effD [5001, 5002] rfl (hc) (by simp [wb]) rfl (by simp) rfl (by kernel_rfl) (by simp [wb]) (by simp [wb]) (by simp [wb]) (by simp [wb]) (by simp [wb]) ?_
    simp [wb, hk]
    refine AOps.weaken (Wk.freeze 99 (ys := encI [e.Op]) rfl) ?_
    simp
    refine AOps.effD [5001, 5002] rfl (lay1_ok b (l ++ p1) p2 19 e.Op (by simp <;> omega)) (by simp [wb]) rfl (by simp) rfl (by kernel_rfl) (by simp [wb]) (by simp [wb]) (by simp [wb]) (by simp [wb]) (by simp [wb]) ?_
    simp [wb]
theorem wexpr_ok (t : GTables) (locals : Int) (e : GExpr) (he : e.wf) (hb : boundM t locals e false = true) : WExpr e := by
  obtain ⟨N, hN⟩ : ∃ N, SizeOf.sizeOf e < N := ⟨_, Nat.lt_succ_self _⟩
  induction N generalizing e with
  | zero => omega
  | succ N ih =>
    have hw := (GExpr.wf_iff e).1 he
    have hs : ∀ x ∈ e.Args, WExpr x := fun x hx => ih x (hw.2.2.2.2.2 _ hx) (bound_mem hb hx) (by have := GExpr.lt_of_mem hx; omega)
    by_cases hL : logicE e
    · obtain ⟨x, y, hA⟩ := bound_logic hb hL.1
      have hx := hs x (by simp [hA])
      have hy := hs y (by simp [hA])
      obtain ⟨hk, ho⟩ := hL
      intro b l n hn
      have hc := wlogic_of e x y hk ho hA hx hy b l n hn
      generalize genE e n = q at *
      obtain ⟨q1, q2⟩ := q
      simp only at hc ⊢
      unfold WCalls wb
      rcases ho with ho | ho <;>
      · refine ACalls.runP [5001, 5002] (by simp) Tryz.func204 rfl (by simp [Tryz.f204]) ?_; simp [Tryz.f204, hk, ho]
        intro bs
        refine AOps.effD [5001, 5002] rfl (hc) (by simp [wb]) rfl (by simp) rfl (by kernel_rfl) (by simp [wb]) (by simp [wb]) (by simp [wb]) (by simp [wb]) (by simp [wb]) ?_
        simp [wb]
    · exact wplain_of t locals e he hb hL hs
end Go.Ab

namespace Go.Ab
open Go.Proofs
end Go.Ab

namespace Go.Ab
open Go.Proofs
end Go.Ab

namespace Go.Ab
open Go.Proofs
theorem bound_said {t : GTables} {locals : Int} {e : GExpr} (h : boundM t locals e true = true) (h1 : e.Kind ≠ 19) (h2 : e.Kind ≠ 13) : boundM t locals e false = true := by
  rw [boundM_eq] at h ⊢
  simpa [boundK, h1, h2] using h
end Go.Ab

namespace Go.Ab
open Go.Proofs
@[simp] theorem GStmt.Kind_mk (k n : Int) (s : ByteArray) (a : List GExpr) (b c : List GStmt) : (GStmt.mk k n s a b c).Kind = k := rfl
@[simp] theorem GStmt.Num_mk (k n : Int) (s : ByteArray) (a : List GExpr) (b c : List GStmt) : (GStmt.mk k n s a b c).Num = n := rfl
@[simp] theorem GStmt.Name_mk (k n : Int) (s : ByteArray) (a : List GExpr) (b c : List GStmt) : (GStmt.mk k n s a b c).Name = s := rfl
@[simp] theorem GStmt.Args_mk (k n : Int) (s : ByteArray) (a : List GExpr) (b c : List GStmt) : (GStmt.mk k n s a b c).Args = a := rfl
@[simp] theorem GStmt.Body_mk (k n : Int) (s : ByteArray) (a : List GExpr) (b c : List GStmt) : (GStmt.mk k n s a b c).Body = b := rfl
@[simp] theorem GStmt.Else_mk (k n : Int) (s : ByteArray) (a : List GExpr) (b c : List GStmt) : (GStmt.mk k n s a b c).Else = c := rfl
theorem GStmt.lt_body (s : GStmt) : SizeOf.sizeOf s.Body < SizeOf.sizeOf s := by
  cases s; simp only [GStmt.Body_mk, GStmt.mk.sizeOf_spec]; omega
theorem GStmt.lt_else (s : GStmt) : SizeOf.sizeOf s.Else < SizeOf.sizeOf s := by
  cases s; simp only [GStmt.Else_mk, GStmt.mk.sizeOf_spec]; omega
mutual
def szS : GStmt → Nat
  | .mk _ _ _ a b c => 1 + szEs a + szB b + szB c
def szB : List GStmt → Nat
  | [] => 0
  | s :: l => szS s + szB l
end
theorem szS_eq (s : GStmt) : szS s = 1 + szEs s.Args + szB s.Body + szB s.Else := by cases s; rw [szS]; rfl
end Go.Ab

namespace Go.Ab
open Go.Proofs
end Go.Ab

namespace Go.Ab
open Go.Proofs
set_option maxRecDepth 40000
set_option maxHeartbeats 4000000
def hasM (s : GStmt) (named : Bool) (args : Int) (body other : Bool) : Bool :=
  decide ((s.Args.length : Int) = args) && (body || decide (s.Body.length = 0)) && (other || decide (s.Else.length = 0)) && (named || (s.Name.toList.isEmpty && decide (s.Num = 0)))
def shapeM (s : GStmt) : Bool × Bool :=
  if s.Kind = 1 then (hasM s false s.Args.length false false && amongM s.Args.length 1 8, false)
  else if s.Kind = 2 ∨ s.Kind = 3 ∨ s.Kind = 5 ∨ s.Kind = 6 ∨ s.Kind = 17 ∨ s.Kind = 23 then (hasM s true 1 false false, true)
  else if s.Kind = 4 then (hasM s true 2 false false, true)
  else if s.Kind = 7 then (hasM s false 2 false false, false)
  else if s.Kind = 8 ∨ s.Kind = 12 ∨ s.Kind = 16 ∨ s.Kind = 20 ∨ s.Kind = 22 ∨ s.Kind = 19 then (hasM s false 1 false false, false)
  else if s.Kind = 9 then (hasM s false 1 true true, false)
  else if s.Kind = 10 then (hasM s false 1 true false, false)
  else if s.Kind = 11 then (hasM s true 1 true false, true)
  else if s.Kind = 18 then (hasM s true 0 false false, true)
  else if s.Kind = 13 ∨ s.Kind = 14 ∨ s.Kind = 15 ∨ s.Kind = 21 then (hasM s false 0 false false, false)
  else (false, false)
def thereM (t : GTables) (s : GStmt) (locals : Int) : Bool :=
  if s.Name.toList.isEmpty then
    if s.Kind = 2 ∨ s.Kind = 3 then decide (0 ≤ s.Num) && decide (s.Num < locals)
    else if s.Kind = 11 then decide (0 ≤ s.Num) && decide (s.Num < locals - 1) && decide (1 < locals)
    else if s.Kind = 23 then amongM s.Num 0 (t.Globals.length - 1)
    else if s.Kind = 4 then amongM s.Num 0 (t.Props.length - 1)
    else if s.Kind = 5 ∨ s.Kind = 6 then decide (0 ≤ s.Num) && decide (s.Num < t.Flags)
    else if s.Kind = 17 ∨ s.Kind = 18 then amongM s.Num 0 (t.Daemons.length - 1)
    else true
  else false
theorem has_ok (s : GStmt) (named : Bool) (args : Int) (body other : Bool) : Pure Tryz.prog 122 [.agg (s.enc.map .d), .d (.v (.bool named)), .d (.v (.int .i64 args)), .d (.v (.bool body)), .d (.v (.bool other))] (.d (.v (.bool (hasM s named args body other)))) := by
  refine Pure.run Tryz.func122 rfl (by simp [Tryz.f122]) ?_; simp [Tryz.f122]
  refine ⟨?_, ?_, ?_, ?_, ?_⟩
  any_goals (simp +contextual; done)
  have e : s.Name.toList.isEmpty = decide (s.Name.toList = []) := by cases s.Name.toList <;> simp
  rw [hasM, e, show decide (s.Num = 0) = (s.Num == 0) from rfl]; simp
theorem shape_ok (s : GStmt) : Pure Tryz.prog 77 [.agg (s.enc.map .d)] (.tup [.d (.v (.bool (shapeM s).1)), .d (.v (.bool (shapeM s).2))]) := by
  refine Pure.run Tryz.func77 rfl (by simp [Tryz.f77]) ?_; simp [-cB, Tryz.f77]
  repeat' (first
    | (with_reducible refine And.intro ?_ ?_)
    | (refine condC_split (fun h => ?_) (fun h => ?_) <;> (try simp at h) <;> (try simp [-cB, *]))
    | (refine AOps.pureC rfl (has_ok s _ _ _ _) rfl rfl (by simp) rfl ?_ <;> (try simp [-cB, *]))
    | (refine AOps.pureC rfl (among_ok _ _ _) rfl rfl (by simp) rfl ?_ <;> (try simp [-cB, *]))
    | (refine AOps.lendC rfl (has_ok s _ _ _ _) rfl (by simp) rfl rfl (by simp) rfl ?_ <;> (try simp [-cB, *]))
    | (refine AOps.lendC rfl (among_ok _ _ _) rfl (by simp) rfl rfl (by simp) rfl ?_ <;> (try simp [-cB, *]))
    | (refine AOps.pureG rfl (fun h => has_ok s _ _ _ _) rfl (by first | rfl | (simp; rfl)) (by simp) (by simp) rfl ?_ <;> (try simp [-cB, *]))
    | (refine AOps.pureG rfl (fun h => among_ok _ _ _) rfl (by first | rfl | (simp; rfl)) (by simp) (by simp) rfl ?_ <;> (try simp [-cB, *]))
    | (with_reducible intro _))
  all_goals first | (simp [shapeM, *]; done) | skip
theorem there_min (t : GTables) (s : GStmt) (hk : s.Kind = 11) (hn : s.Name.toList = []) : Pure Tryz.prog 78 [.agg (t.enc.map .d), .agg (s.enc.map .d), .d (.v (.int .i64 (-9223372036854775808)))] (.d (.v (.bool false))) := by
  refine Pure.runA Tryz.func78 rfl (by simp [Tryz.f78]) ?_
  refine AWP.seqK ?_
  simp [Tryz.f78]
  intro bs
  refine AWP.seqK ?_
  simp [hn]
  refine AWP.seq (AWP.seqK ?_)
  simp [hk]
  refine AWP.block (AWP.seqK ?_)
  simp
  refine AWP.cond rfl (fun h => by simp at h) (fun _ => ?_)
  refine AWP.seqK ?_
  simp
  refine AWP.cond rfl (fun _ => ?_) (fun h => by simp at h)
  refine AWP.seq (AWP.regionS (AOps.stop 7 [] (by rfl) ?_))
  simp
  refine AOps.subG (a := -9223372036854775808) (b := 1) rfl (by rfl) (by simp) (by simp) (by simp) ?_
  refine runC_sound _ _ [] (by rfl) ?_
  simp
  refine AWP.ret ?_
  simp
theorem there_ok (t : GTables) (ht : t.wf) (s : GStmt) (locals : Int) (hl : inR .i64 locals) : Pure Tryz.prog 78 [.agg (t.enc.map .d), .agg (s.enc.map .d), .d (.v (.int .i64 locals))] (.d (.v (.bool (thereM t s locals)))) := by
  have b1 := GTables.wl_Globals ht
  have b2 := GTables.wl_Props ht
  have b3 := GTables.wl_Daemons ht
  by_cases hm : (s.Kind = 11 ∧ s.Name.toList = []) ∧ locals = -9223372036854775808
  · obtain ⟨⟨hk, hn⟩, rfl⟩ := hm
    exact (there_min t s hk hn).eq rfl (by simp [thereM, hk, hn])
  have hlo : s.Kind = 11 → s.Name.toList = [] → inR .i64 (locals - 1) := fun h1 h2 => by
    rw [inR_i64] at hl ⊢
    have : ¬ locals = -9223372036854775808 := fun h => hm ⟨⟨h1, h2⟩, h⟩
    omega
  clear hm
  refine Pure.run Tryz.func78 rfl (by simp [Tryz.f78]) ?_; simp [-cB, Tryz.f78]
  repeat' (first
    | (with_reducible refine And.intro ?_ ?_)
    | (refine condC_split (fun h => ?_) (fun h => ?_) <;> (try simp at h) <;> (try simp [-cB, *]))
    | (refine AOps.pureC rfl (among_ok _ _ _) rfl rfl (by simp) rfl ?_ <;> (try simp [-cB, *]))
    | (refine AOps.lendC rfl (among_ok _ _ _) rfl (by simp) rfl rfl (by simp) rfl ?_ <;> (try simp [-cB, *]))
    | (refine AOps.pureG rfl (fun h => among_ok _ _ _) rfl (by first | rfl | (simp; rfl)) (by simp) (by simp) rfl ?_ <;> (try simp [-cB, *]))
    | (with_reducible intro _))
  all_goals first | assumption | (exact hlo (by assumption) (by assumption)) | (rw [inR_i64]; omega) | (simp [thereM, *]; done) | skip
end Go.Ab

namespace Go.Ab
open Go.Proofs
set_option maxRecDepth 40000
set_option maxHeartbeats 4000000
def greaterM (a b : Int) : Int := if b < a then a else b
theorem greater_ok (a b : Int) : Pure Tryz.prog 120 [.d (.v (.int .i64 a)), .d (.v (.int .i64 b))] (.d (.v (.int .i64 (greaterM a b)))) := by
  refine Pure.run Tryz.func120 rfl (by simp [Tryz.f120]) ?_; simp [-cB, Tryz.f120]
  repeat' (first
    | (with_reducible refine And.intro ?_ ?_)
    | (refine condC_split (fun h => ?_) (fun h => ?_) <;> (try simp at h) <;> (try simp [-cB, *]))
    | (with_reducible intro _))
  all_goals simp [greaterM, *] <;> omega
mutual
def deepS : GStmt → Int → Int → Int
  | .mk _ _ _ a b c, m, n => greaterM (deepsM a m n) (greaterM (if b.isEmpty then 0 else (if 1 < m then deepSs b (m - 1) 0 else 0) + 1) (if c.isEmpty then 0 else (if 1 < m then deepSs c (m - 1) 0 else 0) + 1))
def deepSs : List GStmt → Int → Int → Int
  | [], _, n => n
  | s :: l, m, n => deepSs l m (deepS s m n)
end
def deepB (l : List GStmt) (m : Int) : Int := if l.isEmpty then 0 else (if 1 < m then deepSs l (m - 1) 0 else 0) + 1
theorem deepS_eq (s : GStmt) (m n : Int) : deepS s m n = greaterM (deepsM s.Args m n) (greaterM (deepB s.Body m) (deepB s.Else m)) := by cases s; rw [deepS]; rfl
theorem deepSs_snoc (l : List GStmt) (s : GStmt) (m n : Int) : deepSs (l ++ [s]) m n = deepS s m (deepSs l m n) := by
  induction l generalizing n with
  | nil => simp only [List.nil_append, deepSs]
  | cons x l ih => simp only [List.cons_append, deepSs]; exact ih _
theorem deepSs_bd : ∀ (N : Nat) (l : List GStmt), SizeOf.sizeOf l < N → ∀ m n : Int, 1 ≤ m → 0 ≤ n → n ≤ m → 0 ≤ deepSs l m n ∧ deepSs l m n ≤ m := by
  intro N
  induction N with
  | zero => intro l h; omega
  | succ N ih =>
    intro l h m n h1 h2 h3
    cases l with
    | nil => rw [deepSs]; omega
    | cons s l =>
      rw [deepSs]
      have hs : SizeOf.sizeOf s < N := by simp only [List.cons.sizeOf_spec] at h; omega
      have hb := GStmt.lt_body s
      have he := GStmt.lt_else s
      have hB : ∀ l' : List GStmt, SizeOf.sizeOf l' < N → 0 ≤ deepB l' m ∧ deepB l' m ≤ m := fun l' hl => by
        unfold deepB
        split
        · omega
        · split
          · have := ih l' hl (m - 1) 0 (by omega) (by omega) (by omega); omega
          · omega
      have b1 := hB s.Body (by omega)
      have b2 := hB s.Else (by omega)
      have b3 := deepsM_le s.Args m n h1 h2 h3
      refine ih l (by simp only [List.cons.sizeOf_spec] at h; omega) m _ h1 ?_ ?_
      · rw [deepS_eq]; unfold greaterM; repeat' split
        all_goals omega
      · rw [deepS_eq]; unfold greaterM; repeat' split
        all_goals omega
theorem deepsM_max (l : List GExpr) (x : GExpr) (m n : Int) : deepsM (l ++ [x]) m n = greaterM (deepsM l m n) (deepM x m) := by
  rw [deepsM_snoc]; unfold greaterM; split <;> split <;> omega
theorem deepB_ok (l : List GStmt) (hl : ∀ s ∈ l, s.wf) (hlen : l.length * 104 ≤ 140737488351232) (m : Int) (hm : 1 ≤ m ∧ m ≤ 1000000000000) : Pure Tryz.prog 76 [.d (.sl (l.map GStmt.enc)), .d (.v (.int .i64 m))] (.d (.v (.int .i64 (deepB l m)))) := by
  obtain ⟨n, hn⟩ : ∃ n, SizeOf.sizeOf l < n := ⟨_, Nat.lt_succ_self _⟩
  induction n generalizing l m with
  | zero => omega
  | succ n ih =>
    have hsub : ∀ s ∈ l, (∀ m, 1 ≤ m ∧ m ≤ 1000000000000 → Pure Tryz.prog 76 [.d (.sl (s.Body.map GStmt.enc)), .d (.v (.int .i64 m))] (.d (.v (.int .i64 (deepB s.Body m))))) ∧
        (∀ m, 1 ≤ m ∧ m ≤ 1000000000000 → Pure Tryz.prog 76 [.d (.sl (s.Else.map GStmt.enc)), .d (.v (.int .i64 m))] (.d (.v (.int .i64 (deepB s.Else m))))) := by
      intro s hs
      have hw := hl s hs
      have h1 := List.sizeOf_lt_of_mem hs
      have h2 := GStmt.lt_body s
      have h3 := GStmt.lt_else s
      exact ⟨fun m hm => ih s.Body (GStmt.wf_Body hw) (GStmt.wl_Body hw) m hm (by omega), fun m hm => ih s.Else (GStmt.wf_Else hw) (GStmt.wl_Else hw) m hm (by omega)⟩
    by_cases hE : l = []
    · subst hE
      refine Pure.run Tryz.func76 rfl (by simp [Tryz.f76]) ?_; simp [Tryz.f76]
      rfl
    have hD : deepB l m = (if 1 < m then deepSs l (m - 1) 0 else 0) + 1 := by unfold deepB; simp [hE]
    rw [hD]
    have hG := fun a b L => (greater_ok a b).ok L
    have hBd := fun pre => deepSs_bd _ pre (Nat.lt_succ_self _) (m - 1) 0
    refine Pure.run Tryz.func76 rfl (by simp [Tryz.f76]) ?_; simp [Tryz.f76]
    simp [hE]
    refine ⟨fun h1 => ?_, fun h1 => ?_⟩
    · refine AWP.loopL [1, 5, 15, 16, 17] l (fun pre => [(5, .d (.v (.int .i64 (deepSs pre (m - 1) 0)))), (17, .d (.v (.int .i64 pre.length)))]) (fun _ => []) (fun _ => True) (by rfl) (by omega) (by simp [deepSs]) ?_ ?_
      · rintro pre s post hsp - hlt hge a4
        have hS := hsub s (by rw [hsp]; simp)
        have hws := hl s (by rw [hsp]; simp)
        have hwa := GStmt.wl_Args hws
        have hsn := deepSs_snoc pre s (m - 1) 0
        rw [deepS_eq] at hsn
        have hb := hBd pre (by omega) (by omega) (by omega)
        generalize deepSs pre (m - 1) 0 = v at *
        simp [hlt, hge]
        intro bs
        refine AWP.loopL [1, 5, 7, 15, 16, 17, 22, 23, 24] s.Args (fun pre => [(5, .d (.v (.int .i64 (deepsM pre (m - 1) v)))), (24, .d (.v (.int .i64 pre.length)))]) (fun _ => []) (fun _ => True) (by rfl) (by omega) (by simp [deepsM]) ?_ ?_
        · rintro pre' e post' hsp2 - hlt2 hge2 b4
          have hsn2 := deepsM_max pre' e (m - 1) v
          have a1 : inR .i64 (m - 1) := by rw [inR_i64]; omega
          have hwe := GStmt.wf_Args hws e (by rw [hsp2]; simp)
          simp [hlt2, hge2, a1]
          intro bs2
          refine AOps.pureC rfl (deep_ok e hwe (m - 1) ⟨by omega, by omega⟩) (by simp) rfl (by simp) rfl ?_
          simp
          refine AOps.pureC rfl (greater_ok _ _) rfl rfl (by simp) rfl ?_
          simp [b4, hsn2]
        · intro _
          have c1 := (hS.1 (m - 1) ⟨by omega, by omega⟩).ok
          have c2 := (hS.2 (m - 1) ⟨by omega, by omega⟩).ok
          have a1 : inR .i64 (m - 1) := by rw [inR_i64]; omega
          simp
          refine AWP.regionD [.d (.v (.int .i64 (deepB s.Body (m - 1)))), .d (.v (.int .i64 (deepB s.Else (m - 1)))), .d (.v (.int .i64 (greaterM (deepB s.Body (m - 1)) (deepB s.Else (m - 1))))), .d (.v (.int .i64 (greaterM (deepsM s.Args (m - 1) v) (greaterM (deepB s.Body (m - 1)) (deepB s.Else (m - 1))))))] Tryz.mixed (by kernel_rfl) (by rfl) ?_
          simp [c1, c2, a1, a4, hG, hsn]
      · intro _
        have hb := hBd l (by omega) (by omega) (by omega)
        simp [h1]
        rw [inR_i64]; omega
    · rw [if_neg (by omega)]; exact ⟨by rw [inR_i64]; omega, rfl⟩
theorem depthB_ok (l : List GStmt) (hl : ∀ s ∈ l, s.wf) (hlen : l.length * 104 ≤ 140737488351232) : Pure Tryz.prog 37 [.d (.sl (l.map GStmt.enc))] (.d (.v (.int .i64 (deepB l 65)))) := by
  refine Pure.run Tryz.func37 rfl (by simp [Tryz.f37]) ?_; simp [Tryz.f37]
  refine AOps.pureC rfl (deepB_ok l hl hlen 65 (by omega)) (by simp) rfl (by simp) rfl ?_
  simp
end Go.Ab

namespace Go.Ab
open Go.Proofs
set_option maxRecDepth 40000
set_option maxHeartbeats 4000000
def callM (s : GStmt) : Bool := decide ((s.Args[0]?.getD GExpr.zero).Kind = 18)
mutual
def boundS (t : GTables) (locals : Int) : GStmt → Bool
  | .mk k n nm a b c => (shapeM (.mk k n nm a b c)).1 && thereM t (.mk k n nm a b c) locals && (decide (k ≠ 19) || callM (.mk k n nm a b c)) && (a.all fun x => boundM t locals x (decide (k = 1))) && (boundSs t locals b && decide (b.length ≤ 256)) && (boundSs t locals c && decide (c.length ≤ 256))
def boundSs (t : GTables) (locals : Int) : List GStmt → Bool
  | [] => true
  | s :: l => boundS t locals s && boundSs t locals l
end
def boundB (t : GTables) (locals : Int) (l : List GStmt) : Bool := boundSs t locals l && decide (l.length ≤ 256)
theorem boundS_eq (t : GTables) (locals : Int) (s : GStmt) : boundS t locals s = ((shapeM s).1 && thereM t s locals && (decide (s.Kind ≠ 19) || callM s) && (s.Args.all fun x => boundM t locals x (decide (s.Kind = 1))) && boundB t locals s.Body && boundB t locals s.Else) := by cases s; rw [boundS]; rfl
theorem boundSs_all (t : GTables) (locals : Int) (l : List GStmt) : boundSs t locals l = l.all fun s => boundS t locals s := by
  induction l with
  | nil => rw [boundSs]; rfl
  | cons s l ih => rw [boundSs, ih]; rfl
theorem shape_call {s : GStmt} (h : (shapeM s).1 = true) (hk : s.Kind = 19) : ∃ x, s.Args = [x] := by
  simp [shapeM, hk, hasM] at h
  have hl : s.Args.length = 1 := by omega
  generalize s.Args = l at hl
  match l, hl with
  | [x], _ => exact ⟨x, rfl⟩
theorem boundB_ok (t : GTables) (ht : t.wf) (locals : Int) (hlo : inR .i64 locals) (l : List GStmt) (hl : ∀ s ∈ l, s.wf) (hlen : l.length * 104 ≤ 140737488351232) : Pure Tryz.prog 38 [.agg (t.enc.map .d), .d (.sl (l.map GStmt.enc)), .d (.v (.int .i64 locals))] (.d (.v (.bool (boundB t locals l)))) := by
  obtain ⟨n, hn⟩ : ∃ n, SizeOf.sizeOf l < n := ⟨_, Nat.lt_succ_self _⟩
  induction n generalizing l with
  | zero => omega
  | succ n ih =>
    have hsub : ∀ s ∈ l, Pure Tryz.prog 38 [.agg (t.enc.map .d), .d (.sl (s.Body.map GStmt.enc)), .d (.v (.int .i64 locals))] (.d (.v (.bool (boundB t locals s.Body)))) ∧
        Pure Tryz.prog 38 [.agg (t.enc.map .d), .d (.sl (s.Else.map GStmt.enc)), .d (.v (.int .i64 locals))] (.d (.v (.bool (boundB t locals s.Else)))) := by
      intro s hs
      have hw := hl s hs
      have h1 := List.sizeOf_lt_of_mem hs
      have h2 := GStmt.lt_body s
      have h3 := GStmt.lt_else s
      exact ⟨ih s.Body (GStmt.wf_Body hw) (GStmt.wl_Body hw) (by omega), ih s.Else (GStmt.wf_Else hw) (GStmt.wl_Else hw) (by omega)⟩
    refine Pure.run Tryz.func38 rfl (by simp [Tryz.f38]) ?_; simp [Tryz.f38]
    intro bs0
    refine AWP.loopL [1, 2, 3, 13, 14, 15] l (fun pre => [(15, .d (.v (.int .i64 pre.length)))]) (fun _ => []) (fun pre => boundSs t locals pre = true) (by rfl) (by omega) (by simp [boundSs]) ?_ ?_
    · rintro pre s post hsp hpre hlt hge a4
      have hno : boundS t locals s = false → boundB t locals l = false := fun h => by
        unfold boundB; rw [boundSs_all, hsp]; simp [h]
      have hyes : boundS t locals s = true → boundSs t locals (pre ++ [s]) = true := fun h => by
        rw [boundSs_all] at hpre ⊢; rw [List.all_append, hpre]; simp [h]
      have hS := hsub s (by rw [hsp]; simp)
      have hws := hl s (by rw [hsp]; simp)
      have hwa := GStmt.wl_Args hws
      rw [boundS_eq] at hno hyes
      have hcall : (shapeM s).1 = true → s.Kind = 19 → 0 < s.Args.length := fun h1 h2 => by obtain ⟨x, hx⟩ := shape_call h1 h2; simp [hx]
      have hsp' := hsp.symm
      clear ih hsub hlen hn hsp
      simp [-cB, hlt, hge]
      intro bs
      refine AOps.pureC rfl (shape_ok s) rfl rfl (by simp) rfl ?_
      simp [-cB]
      repeat' (first
        | (with_reducible refine And.intro ?_ ?_)
        | (refine condC_split (fun h => ?_) (fun h => ?_) <;> (try simp at h) <;> (try simp [-cB, *]))
        | (refine AOps.pureC rfl (there_ok t ht s locals hlo) rfl rfl (by simp) rfl ?_ <;> (try simp [-cB, *]))
        | (refine AOps.lendC rfl (there_ok t ht s locals hlo) rfl (by simp) rfl rfl (by simp) rfl ?_ <;> (try simp [-cB, *]))
        | (refine AOps.pureG rfl (fun h => there_ok t ht s locals hlo) rfl (by first | rfl | (simp; rfl)) (by simp) (by simp) rfl ?_ <;> (try simp [-cB, *]))
        | (with_reducible intro _))
      all_goals first | assumption | (exact hcall (by assumption) (by assumption)) | (apply hno; rcases h with (h | h) | ⟨h1, h2⟩ <;> simp [callM, *]; done) | skip
      have hS1 := hS.1.ok
      have hS2 := hS.2.ok
      refine AWP.loopL [1, 2, 3, 8, 13, 14, 15, 47, 48, 49] s.Args (fun pre => [(49, .d (.v (.int .i64 pre.length)))]) (fun _ => []) (fun pre => (pre.all fun x => boundM t locals x (decide (s.Kind = 1))) = true) (by rfl) (by omega) (by simp) ?_ ?_
      · rintro pre' e post' hsp2 hpre2 hlt2 hge2 b4
        have hwe := GStmt.wf_Args hws e (by rw [hsp2]; simp)
        have hnoE : boundM t locals e (decide (s.Kind = 1)) = false → boundB t locals l = false := fun h => by
          apply hno; rw [hsp2]; simp [h]
        clear hsp2 hno hyes hsp' h
        simp [-cB, hlt2, hge2]
        intro bs2
        refine AOps.pureC rfl (boundX_ok t ht locals e hwe _) rfl rfl (by simp) rfl ?_
        simp [-cB]
        repeat' (first
          | (with_reducible refine And.intro ?_ ?_)
          | (refine condC_split (fun h => ?_) (fun h => ?_) <;> (try simp at h) <;> (try simp [-cB, *]))
          | (refine AOps.pureC rfl (boundX_ok t ht locals e hwe _) rfl rfl (by simp) rfl ?_ <;> (try simp [-cB, *]))
          | (refine AOps.lendC rfl (boundX_ok t ht locals e hwe _) rfl (by simp) rfl rfl (by simp) rfl ?_ <;> (try simp [-cB, *]))
          | (refine AOps.pureG rfl (fun h => boundX_ok t ht locals e hwe _) rfl (by first | rfl | (simp; rfl)) (by simp) (by simp) rfl ?_ <;> (try simp [-cB, *]))
          | (with_reducible intro _))
        all_goals first
          | exact hnoE h
          | (rename_i y hy
             rcases hy with hy | rfl
             · exact List.all_eq_true.1 hpre2 y hy
             · exact h)
      · intro hall
        clear hsp'
        simp [-cB]
        repeat' (first
          | (with_reducible refine And.intro ?_ ?_)
          | (refine condC_split (fun h => ?_) (fun h => ?_) <;> (try simp at h) <;> (try simp [-cB, *]))
          | (refine AOps.pureC rfl (hS.1) rfl rfl (by simp) rfl ?_ <;> (try simp [-cB, *]))
          | (refine AOps.pureC rfl (hS.2) rfl rfl (by simp) rfl ?_ <;> (try simp [-cB, *]))
          | (refine AOps.lendC rfl (hS.1) rfl (by simp) rfl rfl (by simp) rfl ?_ <;> (try simp [-cB, *]))
          | (refine AOps.lendC rfl (hS.2) rfl (by simp) rfl rfl (by simp) rfl ?_ <;> (try simp [-cB, *]))
          | (refine AOps.pureG rfl (fun h => hS.1) rfl (by first | rfl | (simp; rfl)) (by simp) (by simp) rfl ?_ <;> (try simp [-cB, *]))
          | (refine AOps.pureG rfl (fun h => hS.2) rfl (by first | rfl | (simp; rfl)) (by simp) (by simp) rfl ?_ <;> (try simp [-cB, *]))
          | (with_reducible intro _))
        · apply hno; rcases h with h | h <;> simp [h]
        · rename_i h'
          apply hyes
          obtain ⟨⟨h1, h2⟩, h3⟩ := h'
          have h4 : (decide (s.Kind ≠ 19) || callM s) = true := by
            by_cases hk : s.Kind = 19
            · simp [callM, h3 hk]
            · simp [hk]
          rw [h1, h2, h4, hall, h.1, h.2]
          rfl
    · intro hpre
      simp [boundB, hpre]
      omega
theorem refBoundB_ok (t : GTables) (ht : t.wf) (locals : Int) (hlo : inR .i64 locals) (l : List GStmt) (hl : ∀ s ∈ l, s.wf) (hlen : l.length * 104 ≤ 140737488351232) : Pure Tryz.prog 20 [.agg (t.enc.map .d), .d (.sl (l.map GStmt.enc)), .d (.v (.int .i64 locals))] (.d (.v (.bool (decide (deepB l 65 ≤ 32) && boundB t locals l)))) := by
  refine Pure.run Tryz.func20 rfl (by simp [Tryz.f20]) ?_; simp [-cB, Tryz.f20]
  intro bs
  repeat' (first
    | (with_reducible refine And.intro ?_ ?_)
    | (refine condC_split (fun h => ?_) (fun h => ?_) <;> (try simp at h) <;> (try simp [-cB, *]))
    | (refine AOps.pureC rfl (depthB_ok l hl hlen) rfl rfl (by simp) rfl ?_ <;> (try simp [-cB, *]))
    | (refine AOps.pureC rfl (boundB_ok t ht locals hlo l hl hlen) rfl rfl (by simp) rfl ?_ <;> (try simp [-cB, *]))
    | (refine AOps.lendC rfl (depthB_ok l hl hlen) rfl (by simp) rfl rfl (by simp) rfl ?_ <;> (try simp [-cB, *]))
    | (refine AOps.lendC rfl (boundB_ok t ht locals hlo l hl hlen) rfl (by simp) rfl rfl (by simp) rfl ?_ <;> (try simp [-cB, *]))
    | (refine AOps.pureG rfl (fun h => depthB_ok l hl hlen) rfl (by first | rfl | (simp; rfl)) (by simp) (by simp) rfl ?_ <;> (try simp [-cB, *]))
    | (refine AOps.pureG rfl (fun h => boundB_ok t ht locals hlo l hl hlen) rfl (by first | rfl | (simp; rfl)) (by simp) (by simp) rfl ?_ <;> (try simp [-cB, *]))
    | (with_reducible intro _))
end Go.Ab

namespace Go.Ab
open Go.Proofs
set_option maxRecDepth 40000
set_option maxHeartbeats 4000000
def sayI (x : GExpr) (n : Int) : List GIns × Int :=
  if x.Kind = 19 then ([⟨21, x.Num⟩], n) else if x.Kind = 13 then ((genEs x.Args n).1 ++ [⟨23, 0⟩], (genEs x.Args n).2) else ((genE x n).1 ++ [⟨22, 0⟩], (genE x n).2)
def genSay : List GExpr → Int → List GIns × Int
  | [], n => ([], n)
  | x :: l, n => ((sayI x n).1 ++ (genSay l (sayI x n).2).1, (genSay l (sayI x n).2).2)
def deedM (k num : Int) : GIns :=
  if k = 2 ∨ k = 3 then ⟨6, num⟩ else if k = 23 then ⟨4, num⟩ else if k = 4 then ⟨14, num⟩ else if k = 5 then ⟨15, num⟩ else if k = 6 then ⟨16, num⟩ else if k = 17 then ⟨32, num⟩ else if k = 18 then ⟨33, num⟩
  else if k = 7 then ⟨17, 0⟩ else if k = 8 then ⟨18, 0⟩ else if k = 12 then ⟨27, 0⟩ else if k = 13 then ⟨28, 0⟩ else if k = 14 then ⟨29, 0⟩ else if k = 15 then ⟨30, 0⟩ else if k = 16 then ⟨31, 0⟩
  else if k = 20 then ⟨34, 0⟩ else if k = 21 then ⟨35, 0⟩ else if k = 22 then ⟨36, 0⟩ else ⟨2, 0⟩
def tick : GIns := ⟨37, 0⟩
mutual
def genS : GStmt → Int → List GIns × Int
  | .mk k num _ a b c, n =>
    if k = 9 then
      (if c.isEmpty then ([tick] ++ (genEs a (n + 1)).1 ++ [⟨25, n⟩] ++ (genB b (genEs a (n + 1)).2).1 ++ [⟨38, n⟩], (genB b (genEs a (n + 1)).2).2)
       else ([tick] ++ (genEs a (n + 2)).1 ++ [⟨25, n⟩] ++ (genB b (genEs a (n + 2)).2).1 ++ [⟨24, n + 1⟩, ⟨38, n⟩] ++ (genB c (genB b (genEs a (n + 2)).2).2).1 ++ [⟨38, n + 1⟩], (genB c (genB b (genEs a (n + 2)).2).2).2))
    else if k = 10 then ([⟨38, n⟩, tick] ++ (genEs a (n + 2)).1 ++ [⟨25, n + 1⟩] ++ (genB b (genEs a (n + 2)).2).1 ++ [⟨24, n⟩, ⟨38, n + 1⟩], (genB b (genEs a (n + 2)).2).2)
    else if k = 11 then ([tick] ++ (genEs a (n + 2)).1 ++ [⟨19, 2⟩, ⟨6, num⟩, ⟨38, n⟩, ⟨5, num⟩, ⟨25, n + 1⟩, tick] ++ [⟨5, num⟩, ⟨19, 3⟩, ⟨6, num + 1⟩] ++ (genB b (genEs a (n + 2)).2).1 ++ [⟨5, num + 1⟩, ⟨6, num⟩, ⟨24, n⟩, ⟨38, n + 1⟩], (genB b (genEs a (n + 2)).2).2)
    else if k = 1 then ([tick] ++ (genSay a n).1, (genSay a n).2)
    else ([tick] ++ (genEs a n).1 ++ [deedM k num], (genEs a n).2)
def genB : List GStmt → Int → List GIns × Int
  | [], n => ([], n)
  | s :: l, n => ((genS s n).1 ++ (genB l (genS s n).2).1, (genB l (genS s n).2).2)
end
theorem genS_if0 (s : GStmt) (n : Int) (hk : s.Kind = 9) (he : s.Else = []) : genS s n = ([tick] ++ (genEs s.Args (n + 1)).1 ++ [⟨25, n⟩] ++ (genB s.Body (genEs s.Args (n + 1)).2).1 ++ [⟨38, n⟩], (genB s.Body (genEs s.Args (n + 1)).2).2) := by
  cases s; cases hk; cases he; rw [genS]; rfl
theorem genS_if1 (s : GStmt) (n : Int) (hk : s.Kind = 9) (he : s.Else ≠ []) : genS s n = ([tick] ++ (genEs s.Args (n + 2)).1 ++ [⟨25, n⟩] ++ (genB s.Body (genEs s.Args (n + 2)).2).1 ++ [⟨24, n + 1⟩, ⟨38, n⟩] ++ (genB s.Else (genB s.Body (genEs s.Args (n + 2)).2).2).1 ++ [⟨38, n + 1⟩], (genB s.Else (genB s.Body (genEs s.Args (n + 2)).2).2).2) := by
  cases s with
  | mk k num nm a b c =>
    cases hk
    rw [genS]
    have : c.isEmpty = false := by cases c with | nil => exact (he rfl).elim | cons x l => rfl
    simp [this]
theorem genS_while (s : GStmt) (n : Int) (hk : s.Kind = 10) : genS s n = ([⟨38, n⟩, tick] ++ (genEs s.Args (n + 2)).1 ++ [⟨25, n + 1⟩] ++ (genB s.Body (genEs s.Args (n + 2)).2).1 ++ [⟨24, n⟩, ⟨38, n + 1⟩], (genB s.Body (genEs s.Args (n + 2)).2).2) := by
  cases s; cases hk; rw [genS]; rfl
theorem genS_each (s : GStmt) (n : Int) (hk : s.Kind = 11) : genS s n = ([tick] ++ (genEs s.Args (n + 2)).1 ++ [⟨19, 2⟩, ⟨6, s.Num⟩, ⟨38, n⟩, ⟨5, s.Num⟩, ⟨25, n + 1⟩, tick] ++ [⟨5, s.Num⟩, ⟨19, 3⟩, ⟨6, s.Num + 1⟩] ++ (genB s.Body (genEs s.Args (n + 2)).2).1 ++ [⟨5, s.Num + 1⟩, ⟨6, s.Num⟩, ⟨24, n⟩, ⟨38, n + 1⟩], (genB s.Body (genEs s.Args (n + 2)).2).2) := by
  cases s; cases hk; rw [genS]; rfl
theorem genS_say (s : GStmt) (n : Int) (hk : s.Kind = 1) : genS s n = ([tick] ++ (genSay s.Args n).1, (genSay s.Args n).2) := by
  cases s; cases hk; rw [genS]; rfl
theorem genS_plain (s : GStmt) (n : Int) (h1 : s.Kind ≠ 9) (h2 : s.Kind ≠ 10) (h3 : s.Kind ≠ 11) (h4 : s.Kind ≠ 1) : genS s n = ([tick] ++ (genEs s.Args n).1 ++ [deedM s.Kind s.Num], (genEs s.Args n).2) := by
  cases s with
  | mk k num nm a b c =>
    rw [genS.eq_def]
    simp only [GStmt.Kind_mk] at h1 h2 h3 h4
    simp [h1, h2, h3, h4]
theorem genB_snoc (l : List GStmt) (x : GStmt) (m : Int) : genB (l ++ [x]) m = ((genB l m).1 ++ (genS x (genB l m).2).1, (genS x (genB l m).2).2) := by
  induction l generalizing m with
  | nil => simp [genB]
  | cons y l ih => simp [genB, ih]
theorem genSay_snoc (l : List GExpr) (x : GExpr) (m : Int) : genSay (l ++ [x]) m = ((genSay l m).1 ++ (sayI x (genSay l m).2).1, (sayI x (genSay l m).2).2) := by
  induction l generalizing m with
  | nil => simp [genSay]
  | cons y l ih => simp [genSay, ih]
theorem szB_app (l r : List GStmt) : szB (l ++ r) = szB l + szB r := by
  induction l with
  | nil => simp [szB]
  | cons x l ih => simp only [List.cons_append, szB, ih]; omega
theorem genEs_bd' (l : List GExpr) (m : Int) : m ≤ (genEs l m).2 ∧ (genEs l m).2 ≤ m + 2 * szEs l ∧ (genEs l m).1.length ≤ 6 * szEs l := genEs_bd l (fun x _ m => genE_bd x m) m
theorem sayI_bd (x : GExpr) (m : Int) : m ≤ (sayI x m).2 ∧ (sayI x m).2 ≤ m + 2 * szE x ∧ (sayI x m).1.length ≤ 7 * szE x := by
  have h1 := genEs_bd' x.Args m
  have h2 := genE_bd x m
  have h3 := szE_eq x
  unfold sayI
  split
  · simp only [List.length_cons, List.length_nil]; omega
  · split
    · simp only [List.length_append, List.length_cons, List.length_nil]; omega
    · simp only [List.length_append, List.length_cons, List.length_nil]; omega
theorem genSay_bd (l : List GExpr) (m : Int) : m ≤ (genSay l m).2 ∧ (genSay l m).2 ≤ m + 2 * szEs l ∧ (genSay l m).1.length ≤ 7 * szEs l := by
  induction l generalizing m with
  | nil => simp [genSay, szEs]
  | cons x l ih =>
    have h1 := sayI_bd x m
    have h2 := ih (sayI x m).2
    rw [genSay, szEs, List.length_append]
    omega
theorem genB_bd : ∀ (N : Nat) (l : List GStmt), SizeOf.sizeOf l < N → ∀ m : Int, m ≤ (genB l m).2 ∧ (genB l m).2 ≤ m + 2 * szB l ∧ (genB l m).1.length ≤ 16 * szB l := by
  intro N
  induction N with
  | zero => intro l h; omega
  | succ N ih =>
    intro l h m
    cases l with
    | nil => simp [genB, szB]
    | cons s l =>
      have hl : SizeOf.sizeOf l < N := by simp only [List.cons.sizeOf_spec] at h; omega
      have hs : SizeOf.sizeOf s < N := by simp only [List.cons.sizeOf_spec] at h; omega
      have hb := GStmt.lt_body s
      have he := GStmt.lt_else s
      rw [genB, szB, szS_eq, List.length_append]
      have h2 := ih l hl (genS s m).2
      have key : m ≤ (genS s m).2 ∧ (genS s m).2 ≤ m + 2 * (1 + szEs s.Args + szB s.Body + szB s.Else) ∧ (genS s m).1.length ≤ 16 * (1 + szEs s.Args + szB s.Body + szB s.Else) := by
        by_cases k9 : s.Kind = 9
        · by_cases he0 : s.Else = []
          · rw [genS_if0 s m k9 he0]
            have a1 := genEs_bd' s.Args (m + 1)
            have a2 := ih s.Body (by omega) (genEs s.Args (m + 1)).2
            simp only [List.length_append, List.length_cons, List.length_nil]
            omega
          · rw [genS_if1 s m k9 he0]
            have a1 := genEs_bd' s.Args (m + 2)
            have a2 := ih s.Body (by omega) (genEs s.Args (m + 2)).2
            have a3 := ih s.Else (by omega) (genB s.Body (genEs s.Args (m + 2)).2).2
            simp only [List.length_append, List.length_cons, List.length_nil]
            omega
        by_cases k10 : s.Kind = 10
        · rw [genS_while s m k10]
          have a1 := genEs_bd' s.Args (m + 2)
          have a2 := ih s.Body (by omega) (genEs s.Args (m + 2)).2
          simp only [List.length_append, List.length_cons, List.length_nil]
          omega
        by_cases k11 : s.Kind = 11
        · rw [genS_each s m k11]
          have a1 := genEs_bd' s.Args (m + 2)
          have a2 := ih s.Body (by omega) (genEs s.Args (m + 2)).2
          simp only [List.length_append, List.length_cons, List.length_nil]
          omega
        by_cases k1 : s.Kind = 1
        · rw [genS_say s m k1]
          have a1 := genSay_bd s.Args m
          simp only [List.length_append, List.length_cons, List.length_nil]
          omega
        · rw [genS_plain s m k9 k10 k11 k1]
          have a1 := genEs_bd' s.Args m
          simp only [List.length_append, List.length_cons, List.length_nil]
          omega
      omega
theorem genB_bd' (l : List GStmt) (m : Int) : m ≤ (genB l m).2 ∧ (genB l m).2 ≤ m + 2 * szB l ∧ (genB l m).1.length ≤ 16 * szB l := genB_bd _ l (Nat.lt_succ_self _) m
theorem genS_bd (s : GStmt) (m : Int) : m ≤ (genS s m).2 ∧ (genS s m).2 ≤ m + 2 * szS s ∧ (genS s m).1.length ≤ 16 * szS s := by
  have := genB_bd' [s] m
  simpa [genB, szB] using this
end Go.Ab

namespace Go.Ab
open Go.Proofs
set_option maxRecDepth 40000
set_option maxHeartbeats 4000000
end Go.Ab

namespace Go.Ab
open Go.Proofs
set_option maxRecDepth 40000
set_option maxHeartbeats 4000000
theorem boundS_parts {t : GTables} {locals : Int} {s : GStmt} (h : boundS t locals s = true) : (shapeM s).1 = true ∧ thereM t s locals = true ∧ (∀ x ∈ s.Args, boundM t locals x (decide (s.Kind = 1)) = true) ∧ (∀ x ∈ s.Body, boundS t locals x = true) ∧ (∀ x ∈ s.Else, boundS t locals x = true) := by
  rw [boundS_eq] at h
  simp only [Bool.and_eq_true, boundB, boundSs_all, List.all_eq_true] at h
  obtain ⟨⟨⟨⟨⟨h1, h2⟩, h3⟩, h4⟩, h5⟩, h6⟩ := h
  exact ⟨h1, h2, h4, h5.1, h6.1⟩
end Go.Ab

namespace Go.Ab
open Go.Proofs
set_option maxRecDepth 40000
set_option maxHeartbeats 4000000
end Go.Ab

namespace Go.Ab
open Go.Proofs
set_option maxRecDepth 40000
set_option maxHeartbeats 4000000
def WEs (es : List GExpr) : Prop := ∀ (b : Nat) (l : List GIns) (n : Int), 0 ≤ n ∧ n + 2 * szEs es ≤ 1000000000 ∧ l.length + 6 * szEs es ≤ 100000000000 →
  WCalls 200 [.d (.sl (es.map GExpr.enc))] b l n (.tup []) (l ++ (genEs es n).1) (genEs es n).2
def WBlock (ss : List GStmt) : Prop := ∀ (b : Nat) (l : List GIns) (n : Int), 0 ≤ n ∧ n + 2 * szB ss ≤ 1000000000 ∧ l.length + 16 * szB ss ≤ 100000000000 →
  WCalls 89 [.d (.sl (ss.map GStmt.enc))] b l n (.tup []) (l ++ (genB ss n).1) (genB ss n).2
def WSt (f : FuncId) (s : GStmt) : Prop := ∀ (b : Nat) (l : List GIns) (n : Int), 0 ≤ n ∧ n + 2 * szS s ≤ 1000000000 ∧ l.length + 16 * szS s ≤ 100000000000 →
  WCalls f [.agg (s.enc.map .d)] b l n (.tup []) (l ++ (genS s n).1) (genS s n).2
theorem wIf0_of (s : GStmt) (hA : WEs s.Args) (hB : WBlock s.Body) (hk : s.Kind = 9) (he : s.Else = []) : WSt 178 s := by
  intro b l n hn
  rw [genS_if0 s n hk he]
  have hz := szS_eq s
  have b1 := genEs_bd' s.Args (n + 1)
  have b2 := genB_bd' s.Body (genEs s.Args (n + 1)).2
  have wA := fun b l h => hA b l (n + 1) h
  have wB := fun b l h => hB b l (genEs s.Args (n + 1)).2 h
  generalize genEs s.Args (n + 1) = p at *
  obtain ⟨p1, p2⟩ := p
  simp only at wB b2
  generalize genB s.Body p2 = q at *
  obtain ⟨q1, q2⟩ := q
  simp only at b1 wA b2 wB ⊢
  have a1 : inR .i64 (n + 1) := by rw [inR_i64]; omega
  have hlen : s.Else.length = 0 := by simp [he]
  unfold WCalls wb at *
  refine ACalls.runP [5001, 5002] (by simp) Tryz.func178 rfl (by simp [Tryz.f178]) ?_; simp [-cB, Tryz.f178]
  intro bs
  refine AOps.effD [5001, 5002] rfl (wlabel_ok b l n (by omega)) (by simp [wb]) rfl (by simp) rfl (by kernel_rfl) (by simp [wb]) (by simp [wb]) (by simp [wb]) (by simp [wb]) (by simp [wb]) ?_
  simp [-cB, wb, hlen, a1, he]
  refine AOps.effD [5001, 5002] rfl (lay0_ok b l (n + 1) 37 (by omega)) (by simp [wb]) rfl (by simp) rfl (by kernel_rfl) (by simp [wb]) (by simp [wb]) (by simp [wb]) (by simp [wb]) (by simp [wb]) ?_
  simp [-cB, wb, hlen, a1, he]
  refine AOps.effD [5001, 5002] rfl (wA b (l ++ [GIns.mk 37 0]) ⟨by omega, by omega, by simp <;> omega⟩) (by simp [wb]) rfl (by simp) rfl (by kernel_rfl) (by simp [wb]) (by simp [wb]) (by simp [wb]) (by simp [wb]) (by simp [wb]) ?_
  simp [-cB, wb, hlen, a1, he]
  refine AOps.weaken (Wk.freeze 23 (ys := encI [n]) rfl) ?_
  simp [-cB]
  refine AOps.effD [5001, 5002] rfl (lay1_ok b ((l ++ [GIns.mk 37 0]) ++ p1) p2 25 n (by simp <;> omega)) (by simp [wb]) rfl (by simp) rfl (by kernel_rfl) (by simp [wb]) (by simp [wb]) (by simp [wb]) (by simp [wb]) (by simp [wb]) ?_
  simp [-cB, wb, hlen, a1, he]
  refine AOps.effD [5001, 5002] rfl (wB b (((l ++ [GIns.mk 37 0]) ++ p1) ++ [GIns.mk 25 n]) ⟨by omega, by omega, by simp <;> omega⟩) (by simp [wb]) rfl (by simp) rfl (by kernel_rfl) (by simp [wb]) (by simp [wb]) (by simp [wb]) (by simp [wb]) (by simp [wb]) ?_
  simp [-cB, wb, hlen, a1, he]
  refine AOps.weaken (Wk.freeze 47 (ys := encI [n]) rfl) ?_
  simp [-cB]
  refine AOps.effD [5001, 5002] rfl (lay1_ok b ((((l ++ [GIns.mk 37 0]) ++ p1) ++ [GIns.mk 25 n]) ++ q1) q2 38 n (by simp <;> omega)) (by simp [wb]) rfl (by simp) rfl (by kernel_rfl) (by simp [wb]) (by simp [wb]) (by simp [wb]) (by simp [wb]) (by simp [wb]) ?_
  simp [wb, tick]
theorem wIf1_of (s : GStmt) (hA : WEs s.Args) (hB : WBlock s.Body) (hE : WBlock s.Else) (hk : s.Kind = 9) (he : s.Else ≠ []) : WSt 178 s := by
  intro b l n hn
  rw [genS_if1 s n hk he]
  have hz := szS_eq s
  have b1 := genEs_bd' s.Args (n + 2)
  have b2 := genB_bd' s.Body (genEs s.Args (n + 2)).2
  have b3 := genB_bd' s.Else (genB s.Body (genEs s.Args (n + 2)).2).2
  have wA := fun b l h => hA b l (n + 2) h
  have wB := fun b l h => hB b l (genEs s.Args (n + 2)).2 h
  have wE := fun b l h => hE b l (genB s.Body (genEs s.Args (n + 2)).2).2 h
  generalize genEs s.Args (n + 2) = p at *
  obtain ⟨p1, p2⟩ := p
  simp only at wB b2 wE b3
  generalize genB s.Body p2 = q at *
  obtain ⟨q1, q2⟩ := q
  simp only at wE b3
  generalize genB s.Else q2 = r at *
  obtain ⟨r1, r2⟩ := r
  simp only at b1 wA b2 wB b3 wE ⊢
  have a1 : inR .i64 (n + 1) := by rw [inR_i64]; omega
  have hlen : 0 < s.Else.length := by
    cases h : s.Else with | nil => exact (he h).elim | cons a l => simp
  unfold WCalls wb at *
  refine ACalls.runP [5001, 5002] (by simp) Tryz.func178 rfl (by simp [Tryz.f178]) ?_; simp [-cB, Tryz.f178]
  intro bs
  refine AOps.effD [5001, 5002] rfl (wlabel_ok b l n (by omega)) (by simp [wb]) rfl (by simp) rfl (by kernel_rfl) (by simp [wb]) (by simp [wb]) (by simp [wb]) (by simp [wb]) (by simp [wb]) ?_
  simp [-cB, wb, hlen, a1]
  have hl2 := wlabel_ok b l (n + 1) (by omega)
  rw [show n + 1 + 1 = n + 2 by omega] at hl2
  unfold WCalls wb at hl2
  refine AOps.effD [5001, 5002] rfl (hl2) (by simp [wb]) rfl (by simp) rfl (by kernel_rfl) (by simp [wb]) (by simp [wb]) (by simp [wb]) (by simp [wb]) (by simp [wb]) ?_
  simp [-cB, wb, hlen, a1]
  refine AOps.effD [5001, 5002] rfl (lay0_ok b l (n + 2) 37 (by omega)) (by simp [wb]) rfl (by simp) rfl (by kernel_rfl) (by simp [wb]) (by simp [wb]) (by simp [wb]) (by simp [wb]) (by simp [wb]) ?_
  simp [-cB, wb, hlen, a1]
  refine AOps.effD [5001, 5002] rfl (wA b (l ++ [GIns.mk 37 0]) ⟨by omega, by omega, by simp <;> omega⟩) (by simp [wb]) rfl (by simp) rfl (by kernel_rfl) (by simp [wb]) (by simp [wb]) (by simp [wb]) (by simp [wb]) (by simp [wb]) ?_
  simp [-cB, wb, hlen, a1]
  refine AOps.weaken (Wk.freeze 23 (ys := encI [n]) rfl) ?_
  simp [-cB]
  refine AOps.effD [5001, 5002] rfl (lay1_ok b ((l ++ [GIns.mk 37 0]) ++ p1) p2 25 n (by simp <;> omega)) (by simp [wb]) rfl (by simp) rfl (by kernel_rfl) (by simp [wb]) (by simp [wb]) (by simp [wb]) (by simp [wb]) (by simp [wb]) ?_
  simp [-cB, wb, hlen, a1]
  refine AOps.effD [5001, 5002] rfl (wB b (((l ++ [GIns.mk 37 0]) ++ p1) ++ [GIns.mk 25 n]) ⟨by omega, by omega, by simp <;> omega⟩) (by simp [wb]) rfl (by simp) rfl (by kernel_rfl) (by simp [wb]) (by simp [wb]) (by simp [wb]) (by simp [wb]) (by simp [wb]) ?_
  simp [-cB, wb, hlen, a1]
  refine AOps.weaken (Wk.freeze 35 (ys := encI [(n + 1)]) rfl) ?_
  simp [-cB]
  refine AOps.effD [5001, 5002] rfl (lay1_ok b ((((l ++ [GIns.mk 37 0]) ++ p1) ++ [GIns.mk 25 n]) ++ q1) q2 24 (n + 1) (by simp <;> omega)) (by simp [wb]) rfl (by simp) rfl (by kernel_rfl) (by simp [wb]) (by simp [wb]) (by simp [wb]) (by simp [wb]) (by simp [wb]) ?_
  simp [-cB, wb, hlen, a1]
  refine AOps.weaken (Wk.freeze 39 (ys := encI [n]) rfl) ?_
  simp [-cB]
  refine AOps.effD [5001, 5002] rfl (lay1_ok b (((((l ++ [GIns.mk 37 0]) ++ p1) ++ [GIns.mk 25 n]) ++ q1) ++ [GIns.mk 24 (n + 1)]) q2 38 n (by simp <;> omega)) (by simp [wb]) rfl (by simp) rfl (by kernel_rfl) (by simp [wb]) (by simp [wb]) (by simp [wb]) (by simp [wb]) (by simp [wb]) ?_
  simp [-cB, wb, hlen, a1]
  refine AOps.effD [5001, 5002] rfl (wE b ((((((l ++ [GIns.mk 37 0]) ++ p1) ++ [GIns.mk 25 n]) ++ q1) ++ [GIns.mk 24 (n + 1)]) ++ [GIns.mk 38 n]) ⟨by omega, by omega, by simp <;> omega⟩) (by simp [wb]) rfl (by simp) rfl (by kernel_rfl) (by simp [wb]) (by simp [wb]) (by simp [wb]) (by simp [wb]) (by simp [wb]) ?_
  simp [-cB, wb, hlen, a1]
  refine AOps.weaken (Wk.freeze 47 (ys := encI [(n + 1)]) rfl) ?_
  simp [-cB]
  refine AOps.effD [5001, 5002] rfl (lay1_ok b (((((((l ++ [GIns.mk 37 0]) ++ p1) ++ [GIns.mk 25 n]) ++ q1) ++ [GIns.mk 24 (n + 1)]) ++ [GIns.mk 38 n]) ++ r1) r2 38 (n + 1) (by simp <;> omega)) (by simp [wb]) rfl (by simp) rfl (by kernel_rfl) (by simp [wb]) (by simp [wb]) (by simp [wb]) (by simp [wb]) (by simp [wb]) ?_
  simp [wb, tick]
theorem wWhile_of (s : GStmt) (hA : WEs s.Args) (hB : WBlock s.Body) (hk : s.Kind = 10) : WSt 179 s := by
  intro b l n hn
  rw [genS_while s n hk]
  have hz := szS_eq s
  have b1 := genEs_bd' s.Args (n + 2)
  have b2 := genB_bd' s.Body (genEs s.Args (n + 2)).2
  have wA := fun b l h => hA b l (n + 2) h
  have wB := fun b l h => hB b l (genEs s.Args (n + 2)).2 h
  generalize genEs s.Args (n + 2) = p at *
  obtain ⟨p1, p2⟩ := p
  simp only at wB b2
  generalize genB s.Body p2 = q at *
  obtain ⟨q1, q2⟩ := q
  simp only at b1 wA b2 wB ⊢
  have a1 : inR .i64 (n + 1) := by rw [inR_i64]; omega
  unfold WCalls wb at *
  refine ACalls.runP [5001, 5002] (by simp) Tryz.func179 rfl (by simp [Tryz.f179]) ?_; simp [-cB, Tryz.f179]
  intro bs
  refine AOps.effD [5001, 5002] rfl (two_ok b l n (by omega)) (by simp [wb]) rfl (by simp) rfl (by kernel_rfl) (by simp [wb]) (by simp [wb]) (by simp [wb]) (by simp [wb]) (by simp [wb]) ?_
  simp [-cB, wb, a1]
  refine AOps.weaken (Wk.freeze 13 (ys := encI [n]) rfl) ?_
  simp [-cB]
  refine AOps.effD [5001, 5002] rfl (lay1_ok b l (n + 2) 38 n (by omega)) (by simp [wb]) rfl (by simp) rfl (by kernel_rfl) (by simp [wb]) (by simp [wb]) (by simp [wb]) (by simp [wb]) (by simp [wb]) ?_
  simp [-cB, wb, a1]
  refine AOps.effD [5001, 5002] rfl (lay0_ok b (l ++ [GIns.mk 38 n]) (n + 2) 37 (by simp <;> omega)) (by simp [wb]) rfl (by simp) rfl (by kernel_rfl) (by simp [wb]) (by simp [wb]) (by simp [wb]) (by simp [wb]) (by simp [wb]) ?_
  simp [-cB, wb, a1]
  refine AOps.effD [5001, 5002] rfl (wA b ((l ++ [GIns.mk 38 n]) ++ [GIns.mk 37 0]) ⟨by omega, by omega, by simp <;> omega⟩) (by simp [wb]) rfl (by simp) rfl (by kernel_rfl) (by simp [wb]) (by simp [wb]) (by simp [wb]) (by simp [wb]) (by simp [wb]) ?_
  simp [-cB, wb, a1]
  refine AOps.weaken (Wk.freeze 23 (ys := encI [(n + 1)]) rfl) ?_
  simp [-cB]
  refine AOps.effD [5001, 5002] rfl (lay1_ok b (((l ++ [GIns.mk 38 n]) ++ [GIns.mk 37 0]) ++ p1) p2 25 (n + 1) (by simp <;> omega)) (by simp [wb]) rfl (by simp) rfl (by kernel_rfl) (by simp [wb]) (by simp [wb]) (by simp [wb]) (by simp [wb]) (by simp [wb]) ?_
  simp [-cB, wb, a1]
  refine AOps.effD [5001, 5002] rfl (wB b ((((l ++ [GIns.mk 38 n]) ++ [GIns.mk 37 0]) ++ p1) ++ [GIns.mk 25 (n + 1)]) ⟨by omega, by omega, by simp <;> omega⟩) (by simp [wb]) rfl (by simp) rfl (by kernel_rfl) (by simp [wb]) (by simp [wb]) (by simp [wb]) (by simp [wb]) (by simp [wb]) ?_
  simp [-cB, wb, a1]
  refine AOps.weaken (Wk.freeze 31 (ys := encI [n]) rfl) ?_
  simp [-cB]
  refine AOps.effD [5001, 5002] rfl (lay1_ok b (((((l ++ [GIns.mk 38 n]) ++ [GIns.mk 37 0]) ++ p1) ++ [GIns.mk 25 (n + 1)]) ++ q1) q2 24 n (by simp <;> omega)) (by simp [wb]) rfl (by simp) rfl (by kernel_rfl) (by simp [wb]) (by simp [wb]) (by simp [wb]) (by simp [wb]) (by simp [wb]) ?_
  simp [-cB, wb, a1]
  refine AOps.weaken (Wk.freeze 35 (ys := encI [(n + 1)]) rfl) ?_
  simp [-cB]
  refine AOps.effD [5001, 5002] rfl (lay1_ok b ((((((l ++ [GIns.mk 38 n]) ++ [GIns.mk 37 0]) ++ p1) ++ [GIns.mk 25 (n + 1)]) ++ q1) ++ [GIns.mk 24 n]) q2 38 (n + 1) (by simp <;> omega)) (by simp [wb]) rfl (by simp) rfl (by kernel_rfl) (by simp [wb]) (by simp [wb]) (by simp [wb]) (by simp [wb]) (by simp [wb]) ?_
  simp [wb, tick]
theorem wEach_of (s : GStmt) (hA : WEs s.Args) (hB : WBlock s.Body) (hk : s.Kind = 11) (hnum : inR .i64 (s.Num + 1)) : WSt 180 s := by
  intro b l n hn
  rw [genS_each s n hk]
  have hz := szS_eq s
  have b1 := genEs_bd' s.Args (n + 2)
  have b2 := genB_bd' s.Body (genEs s.Args (n + 2)).2
  have wA := fun b l h => hA b l (n + 2) h
  have wB := fun b l h => hB b l (genEs s.Args (n + 2)).2 h
  generalize genEs s.Args (n + 2) = p at *
  obtain ⟨p1, p2⟩ := p
  simp only at wB b2
  generalize genB s.Body p2 = q at *
  obtain ⟨q1, q2⟩ := q
  simp only at b1 wA b2 wB ⊢
  have a1 : inR .i64 (n + 1) := by rw [inR_i64]; omega
  unfold WCalls wb at *
  refine ACalls.runP [5001, 5002] (by simp) Tryz.func180 rfl (by simp [Tryz.f180]) ?_; simp [-cB, Tryz.f180]
  intro bs
  refine AOps.effD [5001, 5002] rfl (two_ok b l n (by omega)) (by simp [wb]) rfl (by simp) rfl (by kernel_rfl) (by simp [wb]) (by simp [wb]) (by simp [wb]) (by simp [wb]) (by simp [wb]) ?_
  simp [-cB, wb, a1, hnum]
  refine AOps.effD [5001, 5002] rfl (lay0_ok b l (n + 2) 37 (by omega)) (by simp [wb]) rfl (by simp) rfl (by kernel_rfl) (by simp [wb]) (by simp [wb]) (by simp [wb]) (by simp [wb]) (by simp [wb]) ?_
  simp [-cB, wb, a1, hnum]
  refine AOps.effD [5001, 5002] rfl (wA b (l ++ [GIns.mk 37 0]) ⟨by omega, by omega, by simp <;> omega⟩) (by simp [wb]) rfl (by simp) rfl (by kernel_rfl) (by simp [wb]) (by simp [wb]) (by simp [wb]) (by simp [wb]) (by simp [wb]) ?_
  simp [-cB, wb, a1, hnum]
  refine AOps.weaken (Wk.freeze 18 (ys := encI [2]) rfl) ?_
  simp [-cB]
  refine AOps.effD [5001, 5002] rfl (lay1_ok b ((l ++ [GIns.mk 37 0]) ++ p1) p2 19 2 (by simp <;> omega)) (by simp [wb]) rfl (by simp) rfl (by kernel_rfl) (by simp [wb]) (by simp [wb]) (by simp [wb]) (by simp [wb]) (by simp [wb]) ?_
  simp [-cB, wb, a1, hnum]
  refine AOps.weaken (Wk.freeze 23 (ys := encI [s.Num]) rfl) ?_
  simp [-cB]
  refine AOps.effD [5001, 5002] rfl (lay1_ok b (((l ++ [GIns.mk 37 0]) ++ p1) ++ [GIns.mk 19 2]) p2 6 s.Num (by simp <;> omega)) (by simp [wb]) rfl (by simp) rfl (by kernel_rfl) (by simp [wb]) (by simp [wb]) (by simp [wb]) (by simp [wb]) (by simp [wb]) ?_
  simp [-cB, wb, a1, hnum]
  refine AOps.weaken (Wk.freeze 27 (ys := encI [n]) rfl) ?_
  simp [-cB]
  refine AOps.effD [5001, 5002] rfl (lay1_ok b ((((l ++ [GIns.mk 37 0]) ++ p1) ++ [GIns.mk 19 2]) ++ [GIns.mk 6 s.Num]) p2 38 n (by simp <;> omega)) (by simp [wb]) rfl (by simp) rfl (by kernel_rfl) (by simp [wb]) (by simp [wb]) (by simp [wb]) (by simp [wb]) (by simp [wb]) ?_
  simp [-cB, wb, a1, hnum]
  refine AOps.weaken (Wk.freeze 32 (ys := encI [s.Num]) rfl) ?_
  simp [-cB]
  refine AOps.effD [5001, 5002] rfl (lay1_ok b (((((l ++ [GIns.mk 37 0]) ++ p1) ++ [GIns.mk 19 2]) ++ [GIns.mk 6 s.Num]) ++ [GIns.mk 38 n]) p2 5 s.Num (by simp <;> omega)) (by simp [wb]) rfl (by simp) rfl (by kernel_rfl) (by simp [wb]) (by simp [wb]) (by simp [wb]) (by simp [wb]) (by simp [wb]) ?_
  simp [-cB, wb, a1, hnum]
  refine AOps.weaken (Wk.freeze 36 (ys := encI [(n + 1)]) rfl) ?_
  simp [-cB]
  refine AOps.effD [5001, 5002] rfl (lay1_ok b ((((((l ++ [GIns.mk 37 0]) ++ p1) ++ [GIns.mk 19 2]) ++ [GIns.mk 6 s.Num]) ++ [GIns.mk 38 n]) ++ [GIns.mk 5 s.Num]) p2 25 (n + 1) (by simp <;> omega)) (by simp [wb]) rfl (by simp) rfl (by kernel_rfl) (by simp [wb]) (by simp [wb]) (by simp [wb]) (by simp [wb]) (by simp [wb]) ?_
  simp [-cB, wb, a1, hnum]
  refine AOps.effD [5001, 5002] rfl (lay0_ok b (((((((l ++ [GIns.mk 37 0]) ++ p1) ++ [GIns.mk 19 2]) ++ [GIns.mk 6 s.Num]) ++ [GIns.mk 38 n]) ++ [GIns.mk 5 s.Num]) ++ [GIns.mk 25 (n + 1)]) p2 37 (by simp <;> omega)) (by simp [wb]) rfl (by simp) rfl (by kernel_rfl) (by simp [wb]) (by simp [wb]) (by simp [wb]) (by simp [wb]) (by simp [wb]) ?_
  simp [-cB, wb, a1, hnum]
  refine AOps.weaken (Wk.freeze 43 (ys := encI [s.Num]) rfl) ?_
  simp [-cB]
  refine AOps.effD [5001, 5002] rfl (lay1_ok b ((((((((l ++ [GIns.mk 37 0]) ++ p1) ++ [GIns.mk 19 2]) ++ [GIns.mk 6 s.Num]) ++ [GIns.mk 38 n]) ++ [GIns.mk 5 s.Num]) ++ [GIns.mk 25 (n + 1)]) ++ [GIns.mk 37 0]) p2 5 s.Num (by simp <;> omega)) (by simp [wb]) rfl (by simp) rfl (by kernel_rfl) (by simp [wb]) (by simp [wb]) (by simp [wb]) (by simp [wb]) (by simp [wb]) ?_
  simp [-cB, wb, a1, hnum]
  refine AOps.weaken (Wk.freeze 46 (ys := encI [3]) rfl) ?_
  simp [-cB]
  refine AOps.effD [5001, 5002] rfl (lay1_ok b (((((((((l ++ [GIns.mk 37 0]) ++ p1) ++ [GIns.mk 19 2]) ++ [GIns.mk 6 s.Num]) ++ [GIns.mk 38 n]) ++ [GIns.mk 5 s.Num]) ++ [GIns.mk 25 (n + 1)]) ++ [GIns.mk 37 0]) ++ [GIns.mk 5 s.Num]) p2 19 3 (by simp <;> omega)) (by simp [wb]) rfl (by simp) rfl (by kernel_rfl) (by simp [wb]) (by simp [wb]) (by simp [wb]) (by simp [wb]) (by simp [wb]) ?_
  simp [-cB, wb, a1, hnum]
  refine AOps.weaken (Wk.freeze 52 (ys := encI [(s.Num + 1)]) rfl) ?_
  simp [-cB]
  refine AOps.effD [5001, 5002] rfl (lay1_ok b ((((((((((l ++ [GIns.mk 37 0]) ++ p1) ++ [GIns.mk 19 2]) ++ [GIns.mk 6 s.Num]) ++ [GIns.mk 38 n]) ++ [GIns.mk 5 s.Num]) ++ [GIns.mk 25 (n + 1)]) ++ [GIns.mk 37 0]) ++ [GIns.mk 5 s.Num]) ++ [GIns.mk 19 3]) p2 6 (s.Num + 1) (by simp <;> omega)) (by simp [wb]) rfl (by simp) rfl (by kernel_rfl) (by simp [wb]) (by simp [wb]) (by simp [wb]) (by simp [wb]) (by simp [wb]) ?_
  simp [-cB, wb, a1, hnum]
  refine AOps.effD [5001, 5002] rfl (wB b (((((((((((l ++ [GIns.mk 37 0]) ++ p1) ++ [GIns.mk 19 2]) ++ [GIns.mk 6 s.Num]) ++ [GIns.mk 38 n]) ++ [GIns.mk 5 s.Num]) ++ [GIns.mk 25 (n + 1)]) ++ [GIns.mk 37 0]) ++ [GIns.mk 5 s.Num]) ++ [GIns.mk 19 3]) ++ [GIns.mk 6 (s.Num + 1)]) ⟨by omega, by omega, by simp <;> omega⟩) (by simp [wb]) rfl (by simp) rfl (by kernel_rfl) (by simp [wb]) (by simp [wb]) (by simp [wb]) (by simp [wb]) (by simp [wb]) ?_
  simp [-cB, wb, a1, hnum]
  refine AOps.weaken (Wk.freeze 62 (ys := encI [(s.Num + 1)]) rfl) ?_
  simp [-cB]
  refine AOps.effD [5001, 5002] rfl (lay1_ok b ((((((((((((l ++ [GIns.mk 37 0]) ++ p1) ++ [GIns.mk 19 2]) ++ [GIns.mk 6 s.Num]) ++ [GIns.mk 38 n]) ++ [GIns.mk 5 s.Num]) ++ [GIns.mk 25 (n + 1)]) ++ [GIns.mk 37 0]) ++ [GIns.mk 5 s.Num]) ++ [GIns.mk 19 3]) ++ [GIns.mk 6 (s.Num + 1)]) ++ q1) q2 5 (s.Num + 1) (by simp <;> omega)) (by simp [wb]) rfl (by simp) rfl (by kernel_rfl) (by simp [wb]) (by simp [wb]) (by simp [wb]) (by simp [wb]) (by simp [wb]) ?_
  simp [-cB, wb, a1, hnum]
  refine AOps.weaken (Wk.freeze 67 (ys := encI [s.Num]) rfl) ?_
  simp [-cB]
  refine AOps.effD [5001, 5002] rfl (lay1_ok b (((((((((((((l ++ [GIns.mk 37 0]) ++ p1) ++ [GIns.mk 19 2]) ++ [GIns.mk 6 s.Num]) ++ [GIns.mk 38 n]) ++ [GIns.mk 5 s.Num]) ++ [GIns.mk 25 (n + 1)]) ++ [GIns.mk 37 0]) ++ [GIns.mk 5 s.Num]) ++ [GIns.mk 19 3]) ++ [GIns.mk 6 (s.Num + 1)]) ++ q1) ++ [GIns.mk 5 (s.Num + 1)]) q2 6 s.Num (by simp <;> omega)) (by simp [wb]) rfl (by simp) rfl (by kernel_rfl) (by simp [wb]) (by simp [wb]) (by simp [wb]) (by simp [wb]) (by simp [wb]) ?_
  simp [-cB, wb, a1, hnum]
  refine AOps.weaken (Wk.freeze 71 (ys := encI [n]) rfl) ?_
  simp [-cB]
  refine AOps.effD [5001, 5002] rfl (lay1_ok b ((((((((((((((l ++ [GIns.mk 37 0]) ++ p1) ++ [GIns.mk 19 2]) ++ [GIns.mk 6 s.Num]) ++ [GIns.mk 38 n]) ++ [GIns.mk 5 s.Num]) ++ [GIns.mk 25 (n + 1)]) ++ [GIns.mk 37 0]) ++ [GIns.mk 5 s.Num]) ++ [GIns.mk 19 3]) ++ [GIns.mk 6 (s.Num + 1)]) ++ q1) ++ [GIns.mk 5 (s.Num + 1)]) ++ [GIns.mk 6 s.Num]) q2 24 n (by simp <;> omega)) (by simp [wb]) rfl (by simp) rfl (by kernel_rfl) (by simp [wb]) (by simp [wb]) (by simp [wb]) (by simp [wb]) (by simp [wb]) ?_
  simp [-cB, wb, a1, hnum]
  refine AOps.weaken (Wk.freeze 75 (ys := encI [(n + 1)]) rfl) ?_
  simp [-cB]
  refine AOps.effD [5001, 5002] rfl (lay1_ok b (((((((((((((((l ++ [GIns.mk 37 0]) ++ p1) ++ [GIns.mk 19 2]) ++ [GIns.mk 6 s.Num]) ++ [GIns.mk 38 n]) ++ [GIns.mk 5 s.Num]) ++ [GIns.mk 25 (n + 1)]) ++ [GIns.mk 37 0]) ++ [GIns.mk 5 s.Num]) ++ [GIns.mk 19 3]) ++ [GIns.mk 6 (s.Num + 1)]) ++ q1) ++ [GIns.mk 5 (s.Num + 1)]) ++ [GIns.mk 6 s.Num]) ++ [GIns.mk 24 n]) q2 38 (n + 1) (by simp <;> omega)) (by simp [wb]) rfl (by simp) rfl (by kernel_rfl) (by simp [wb]) (by simp [wb]) (by simp [wb]) (by simp [wb]) (by simp [wb]) ?_
  simp [wb, tick]
def bareN (k : Int) : Int := if k = 7 then 17 else if k = 8 then 18 else if k = 12 then 27 else if k = 13 then 28 else if k = 14 then 29 else if k = 15 then 30 else if k = 16 then 31 else if k = 20 then 34 else if k = 21 then 35 else 36
theorem bareN_ok (k : Int) : Pure Tryz.prog 201 [.d (.v (.int .i64 k))] (.d (.v (.int .i64 (bareN k)))) := by
  refine Pure.run Tryz.func201 rfl (by simp [Tryz.f201]) ?_; simp [-cB, Tryz.f201]
  repeat' (first
    | (with_reducible refine And.intro ?_ ?_)
    | (refine condC_split (fun h => ?_) (fun h => ?_) <;> (try simp at h) <;> (try simp [-cB, *]))
    | (with_reducible intro _))
  all_goals simp [bareN, *]
theorem wPlain_of (s : GStmt) (hA : WEs s.Args) (h1 : s.Kind ≠ 9) (h2 : s.Kind ≠ 10) (h3 : s.Kind ≠ 11) (h4 : s.Kind ≠ 1) (hk : s.Kind = 2 ∨ s.Kind = 3 ∨ s.Kind = 23 ∨ s.Kind = 4 ∨ s.Kind = 5 ∨ s.Kind = 6 ∨ s.Kind = 17 ∨ s.Kind = 18 ∨ s.Kind = 19 ∨ s.Kind = 7 ∨ s.Kind = 8 ∨ s.Kind = 12 ∨ s.Kind = 13 ∨ s.Kind = 14 ∨ s.Kind = 15 ∨ s.Kind = 16 ∨ s.Kind = 20 ∨ s.Kind = 21 ∨ s.Kind = 22) : WSt 177 s := by
  intro b l n hn
  rw [genS_plain s n h1 h2 h3 h4]
  have hz := szS_eq s
  have b1 := genEs_bd' s.Args n
  have wA := fun b l h => hA b l n h
  generalize genEs s.Args n = p at *
  obtain ⟨p1, p2⟩ := p
  simp only at b1 wA ⊢
  unfold WCalls wb at *
  rcases hk with hk | hk | hk | hk | hk | hk | hk | hk | hk | hk | hk | hk | hk | hk | hk | hk | hk | hk | hk
  · refine ACalls.runP [5001, 5002] (by simp) Tryz.func177 rfl (by simp [Tryz.f177]) ?_; simp [-cB, Tryz.f177, hk]
    intro bs
    refine AOps.effD [5001, 5002] rfl (lay0_ok b l n 37 (by omega)) (by simp [wb]) rfl (by simp) rfl (by kernel_rfl) (by simp [wb]) (by simp [wb]) (by simp [wb]) (by simp [wb]) (by simp [wb]) ?_
    simp [-cB, wb, hk]
    refine AOps.effD [5001, 5002] rfl (wA b (l ++ [GIns.mk 37 0]) ⟨by omega, by omega, by simp <;> omega⟩) (by simp [wb]) rfl (by simp) rfl (by kernel_rfl) (by simp [wb]) (by simp [wb]) (by simp [wb]) (by simp [wb]) (by simp [wb]) ?_
    simp [-cB, wb, hk]
    refine AOps.weaken (Wk.freeze 23 (ys := encI [s.Num]) rfl) ?_
    simp [-cB]
    refine AOps.effD [5001, 5002] rfl (lay1_ok b ((l ++ [GIns.mk 37 0]) ++ p1) p2 6 s.Num (by simp <;> omega)) (by simp [wb]) rfl (by simp) rfl (by kernel_rfl) (by simp [wb]) (by simp [wb]) (by simp [wb]) (by simp [wb]) (by simp [wb]) ?_
    simp [wb, tick, hk, deedM]
  · refine ACalls.runP [5001, 5002] (by simp) Tryz.func177 rfl (by simp [Tryz.f177]) ?_; simp [-cB, Tryz.f177, hk]
    intro bs
    refine AOps.effD [5001, 5002] rfl (lay0_ok b l n 37 (by omega)) (by simp [wb]) rfl (by simp) rfl (by kernel_rfl) (by simp [wb]) (by simp [wb]) (by simp [wb]) (by simp [wb]) (by simp [wb]) ?_
    simp [-cB, wb, hk]
    refine AOps.effD [5001, 5002] rfl (wA b (l ++ [GIns.mk 37 0]) ⟨by omega, by omega, by simp <;> omega⟩) (by simp [wb]) rfl (by simp) rfl (by kernel_rfl) (by simp [wb]) (by simp [wb]) (by simp [wb]) (by simp [wb]) (by simp [wb]) ?_
    simp [-cB, wb, hk]
    refine AOps.weaken (Wk.freeze 23 (ys := encI [s.Num]) rfl) ?_
    simp [-cB]
    refine AOps.effD [5001, 5002] rfl (lay1_ok b ((l ++ [GIns.mk 37 0]) ++ p1) p2 6 s.Num (by simp <;> omega)) (by simp [wb]) rfl (by simp) rfl (by kernel_rfl) (by simp [wb]) (by simp [wb]) (by simp [wb]) (by simp [wb]) (by simp [wb]) ?_
    simp [wb, tick, hk, deedM]
  · refine ACalls.runP [5001, 5002] (by simp) Tryz.func177 rfl (by simp [Tryz.f177]) ?_; simp [-cB, Tryz.f177, hk]
    intro bs
    refine AOps.effD [5001, 5002] rfl (lay0_ok b l n 37 (by omega)) (by simp [wb]) rfl (by simp) rfl (by kernel_rfl) (by simp [wb]) (by simp [wb]) (by simp [wb]) (by simp [wb]) (by simp [wb]) ?_
    simp [-cB, wb, hk]
    refine AOps.effD [5001, 5002] rfl (wA b (l ++ [GIns.mk 37 0]) ⟨by omega, by omega, by simp <;> omega⟩) (by simp [wb]) rfl (by simp) rfl (by kernel_rfl) (by simp [wb]) (by simp [wb]) (by simp [wb]) (by simp [wb]) (by simp [wb]) ?_
    simp [-cB, wb, hk]
    refine AOps.weaken (Wk.freeze 30 (ys := encI [s.Num]) rfl) ?_
    simp [-cB]
    refine AOps.effD [5001, 5002] rfl (lay1_ok b ((l ++ [GIns.mk 37 0]) ++ p1) p2 4 s.Num (by simp <;> omega)) (by simp [wb]) rfl (by simp) rfl (by kernel_rfl) (by simp [wb]) (by simp [wb]) (by simp [wb]) (by simp [wb]) (by simp [wb]) ?_
    simp [wb, tick, hk, deedM]
  · refine ACalls.runP [5001, 5002] (by simp) Tryz.func177 rfl (by simp [Tryz.f177]) ?_; simp [-cB, Tryz.f177, hk]
    intro bs
    refine AOps.effD [5001, 5002] rfl (lay0_ok b l n 37 (by omega)) (by simp [wb]) rfl (by simp) rfl (by kernel_rfl) (by simp [wb]) (by simp [wb]) (by simp [wb]) (by simp [wb]) (by simp [wb]) ?_
    simp [-cB, wb, hk]
    refine AOps.effD [5001, 5002] rfl (wA b (l ++ [GIns.mk 37 0]) ⟨by omega, by omega, by simp <;> omega⟩) (by simp [wb]) rfl (by simp) rfl (by kernel_rfl) (by simp [wb]) (by simp [wb]) (by simp [wb]) (by simp [wb]) (by simp [wb]) ?_
    simp [-cB, wb, hk]
    refine AOps.weaken (Wk.freeze 37 (ys := encI [s.Num]) rfl) ?_
    simp [-cB]
    refine AOps.effD [5001, 5002] rfl (lay1_ok b ((l ++ [GIns.mk 37 0]) ++ p1) p2 14 s.Num (by simp <;> omega)) (by simp [wb]) rfl (by simp) rfl (by kernel_rfl) (by simp [wb]) (by simp [wb]) (by simp [wb]) (by simp [wb]) (by simp [wb]) ?_
    simp [wb, tick, hk, deedM]
  · refine ACalls.runP [5001, 5002] (by simp) Tryz.func177 rfl (by simp [Tryz.f177]) ?_; simp [-cB, Tryz.f177, hk]
    intro bs
    refine AOps.effD [5001, 5002] rfl (lay0_ok b l n 37 (by omega)) (by simp [wb]) rfl (by simp) rfl (by kernel_rfl) (by simp [wb]) (by simp [wb]) (by simp [wb]) (by simp [wb]) (by simp [wb]) ?_
    simp [-cB, wb, hk]
    refine AOps.effD [5001, 5002] rfl (wA b (l ++ [GIns.mk 37 0]) ⟨by omega, by omega, by simp <;> omega⟩) (by simp [wb]) rfl (by simp) rfl (by kernel_rfl) (by simp [wb]) (by simp [wb]) (by simp [wb]) (by simp [wb]) (by simp [wb]) ?_
    simp [-cB, wb, hk]
    refine AOps.weaken (Wk.freeze 44 (ys := encI [s.Num]) rfl) ?_
    simp [-cB]
    refine AOps.effD [5001, 5002] rfl (lay1_ok b ((l ++ [GIns.mk 37 0]) ++ p1) p2 15 s.Num (by simp <;> omega)) (by simp [wb]) rfl (by simp) rfl (by kernel_rfl) (by simp [wb]) (by simp [wb]) (by simp [wb]) (by simp [wb]) (by simp [wb]) ?_
    simp [wb, tick, hk, deedM]
  · refine ACalls.runP [5001, 5002] (by simp) Tryz.func177 rfl (by simp [Tryz.f177]) ?_; simp [-cB, Tryz.f177, hk]
    intro bs
    refine AOps.effD [5001, 5002] rfl (lay0_ok b l n 37 (by omega)) (by simp [wb]) rfl (by simp) rfl (by kernel_rfl) (by simp [wb]) (by simp [wb]) (by simp [wb]) (by simp [wb]) (by simp [wb]) ?_
    simp [-cB, wb, hk]
    refine AOps.effD [5001, 5002] rfl (wA b (l ++ [GIns.mk 37 0]) ⟨by omega, by omega, by simp <;> omega⟩) (by simp [wb]) rfl (by simp) rfl (by kernel_rfl) (by simp [wb]) (by simp [wb]) (by simp [wb]) (by simp [wb]) (by simp [wb]) ?_
    simp [-cB, wb, hk]
    refine AOps.weaken (Wk.freeze 51 (ys := encI [s.Num]) rfl) ?_
    simp [-cB]
    refine AOps.effD [5001, 5002] rfl (lay1_ok b ((l ++ [GIns.mk 37 0]) ++ p1) p2 16 s.Num (by simp <;> omega)) (by simp [wb]) rfl (by simp) rfl (by kernel_rfl) (by simp [wb]) (by simp [wb]) (by simp [wb]) (by simp [wb]) (by simp [wb]) ?_
    simp [wb, tick, hk, deedM]
  · refine ACalls.runP [5001, 5002] (by simp) Tryz.func177 rfl (by simp [Tryz.f177]) ?_; simp [-cB, Tryz.f177, hk]
    intro bs
    refine AOps.effD [5001, 5002] rfl (lay0_ok b l n 37 (by omega)) (by simp [wb]) rfl (by simp) rfl (by kernel_rfl) (by simp [wb]) (by simp [wb]) (by simp [wb]) (by simp [wb]) (by simp [wb]) ?_
    simp [-cB, wb, hk]
    refine AOps.effD [5001, 5002] rfl (wA b (l ++ [GIns.mk 37 0]) ⟨by omega, by omega, by simp <;> omega⟩) (by simp [wb]) rfl (by simp) rfl (by kernel_rfl) (by simp [wb]) (by simp [wb]) (by simp [wb]) (by simp [wb]) (by simp [wb]) ?_
    simp [-cB, wb, hk]
    refine AOps.weaken (Wk.freeze 58 (ys := encI [s.Num]) rfl) ?_
    simp [-cB]
    refine AOps.effD [5001, 5002] rfl (lay1_ok b ((l ++ [GIns.mk 37 0]) ++ p1) p2 32 s.Num (by simp <;> omega)) (by simp [wb]) rfl (by simp) rfl (by kernel_rfl) (by simp [wb]) (by simp [wb]) (by simp [wb]) (by simp [wb]) (by simp [wb]) ?_
    simp [wb, tick, hk, deedM]
  · refine ACalls.runP [5001, 5002] (by simp) Tryz.func177 rfl (by simp [Tryz.f177]) ?_; simp [-cB, Tryz.f177, hk]
    intro bs
    refine AOps.effD [5001, 5002] rfl (lay0_ok b l n 37 (by omega)) (by simp [wb]) rfl (by simp) rfl (by kernel_rfl) (by simp [wb]) (by simp [wb]) (by simp [wb]) (by simp [wb]) (by simp [wb]) ?_
    simp [-cB, wb, hk]
    refine AOps.effD [5001, 5002] rfl (wA b (l ++ [GIns.mk 37 0]) ⟨by omega, by omega, by simp <;> omega⟩) (by simp [wb]) rfl (by simp) rfl (by kernel_rfl) (by simp [wb]) (by simp [wb]) (by simp [wb]) (by simp [wb]) (by simp [wb]) ?_
    simp [-cB, wb, hk]
    refine AOps.weaken (Wk.freeze 65 (ys := encI [s.Num]) rfl) ?_
    simp [-cB]
    refine AOps.effD [5001, 5002] rfl (lay1_ok b ((l ++ [GIns.mk 37 0]) ++ p1) p2 33 s.Num (by simp <;> omega)) (by simp [wb]) rfl (by simp) rfl (by kernel_rfl) (by simp [wb]) (by simp [wb]) (by simp [wb]) (by simp [wb]) (by simp [wb]) ?_
    simp [wb, tick, hk, deedM]
  · refine ACalls.runP [5001, 5002] (by simp) Tryz.func177 rfl (by simp [Tryz.f177]) ?_; simp [-cB, Tryz.f177, hk]
    intro bs
    refine AOps.effD [5001, 5002] rfl (lay0_ok b l n 37 (by omega)) (by simp [wb]) rfl (by simp) rfl (by kernel_rfl) (by simp [wb]) (by simp [wb]) (by simp [wb]) (by simp [wb]) (by simp [wb]) ?_
    simp [-cB, wb, hk]
    refine AOps.effD [5001, 5002] rfl (wA b (l ++ [GIns.mk 37 0]) ⟨by omega, by omega, by simp <;> omega⟩) (by simp [wb]) rfl (by simp) rfl (by kernel_rfl) (by simp [wb]) (by simp [wb]) (by simp [wb]) (by simp [wb]) (by simp [wb]) ?_
    simp [-cB, wb, hk]
    refine AOps.effD [5001, 5002] rfl (lay0_ok b ((l ++ [GIns.mk 37 0]) ++ p1) p2 2 (by simp <;> omega)) (by simp [wb]) rfl (by simp) rfl (by kernel_rfl) (by simp [wb]) (by simp [wb]) (by simp [wb]) (by simp [wb]) (by simp [wb]) ?_
    simp [wb, tick, hk, deedM]
  · refine ACalls.runP [5001, 5002] (by simp) Tryz.func177 rfl (by simp [Tryz.f177]) ?_; simp [-cB, Tryz.f177, hk]
    intro bs
    refine AOps.effD [5001, 5002] rfl (lay0_ok b l n 37 (by omega)) (by simp [wb]) rfl (by simp) rfl (by kernel_rfl) (by simp [wb]) (by simp [wb]) (by simp [wb]) (by simp [wb]) (by simp [wb]) ?_
    simp [-cB, wb, hk]
    refine AOps.effD [5001, 5002] rfl (wA b (l ++ [GIns.mk 37 0]) ⟨by omega, by omega, by simp <;> omega⟩) (by simp [wb]) rfl (by simp) rfl (by kernel_rfl) (by simp [wb]) (by simp [wb]) (by simp [wb]) (by simp [wb]) (by simp [wb]) ?_
    simp [-cB, wb, hk]
    have hbare := bareN_ok 7
    rw [show bareN 7 = 17 by simp [bareN]] at hbare
    refine AOps.pureC rfl (hbare) rfl rfl (by simp) rfl ?_
    simp [-cB, wb, hk]
    refine AOps.effD [5001, 5002] rfl (lay0_ok b ((l ++ [GIns.mk 37 0]) ++ p1) p2 17 (by simp <;> omega)) (by simp [wb]) rfl (by simp) rfl (by kernel_rfl) (by simp [wb]) (by simp [wb]) (by simp [wb]) (by simp [wb]) (by simp [wb]) ?_
    simp [wb, tick, hk, deedM]
  · refine ACalls.runP [5001, 5002] (by simp) Tryz.func177 rfl (by simp [Tryz.f177]) ?_; simp [-cB, Tryz.f177, hk]
    intro bs
    refine AOps.effD [5001, 5002] rfl (lay0_ok b l n 37 (by omega)) (by simp [wb]) rfl (by simp) rfl (by kernel_rfl) (by simp [wb]) (by simp [wb]) (by simp [wb]) (by simp [wb]) (by simp [wb]) ?_
    simp [-cB, wb, hk]
    refine AOps.effD [5001, 5002] rfl (wA b (l ++ [GIns.mk 37 0]) ⟨by omega, by omega, by simp <;> omega⟩) (by simp [wb]) rfl (by simp) rfl (by kernel_rfl) (by simp [wb]) (by simp [wb]) (by simp [wb]) (by simp [wb]) (by simp [wb]) ?_
    simp [-cB, wb, hk]
    have hbare := bareN_ok 8
    rw [show bareN 8 = 18 by simp [bareN]] at hbare
    refine AOps.pureC rfl (hbare) rfl rfl (by simp) rfl ?_
    simp [-cB, wb, hk]
    refine AOps.effD [5001, 5002] rfl (lay0_ok b ((l ++ [GIns.mk 37 0]) ++ p1) p2 18 (by simp <;> omega)) (by simp [wb]) rfl (by simp) rfl (by kernel_rfl) (by simp [wb]) (by simp [wb]) (by simp [wb]) (by simp [wb]) (by simp [wb]) ?_
    simp [wb, tick, hk, deedM]
  · refine ACalls.runP [5001, 5002] (by simp) Tryz.func177 rfl (by simp [Tryz.f177]) ?_; simp [-cB, Tryz.f177, hk]
    intro bs
    refine AOps.effD [5001, 5002] rfl (lay0_ok b l n 37 (by omega)) (by simp [wb]) rfl (by simp) rfl (by kernel_rfl) (by simp [wb]) (by simp [wb]) (by simp [wb]) (by simp [wb]) (by simp [wb]) ?_
    simp [-cB, wb, hk]
    refine AOps.effD [5001, 5002] rfl (wA b (l ++ [GIns.mk 37 0]) ⟨by omega, by omega, by simp <;> omega⟩) (by simp [wb]) rfl (by simp) rfl (by kernel_rfl) (by simp [wb]) (by simp [wb]) (by simp [wb]) (by simp [wb]) (by simp [wb]) ?_
    simp [-cB, wb, hk]
    have hbare := bareN_ok 12
    rw [show bareN 12 = 27 by simp [bareN]] at hbare
    refine AOps.pureC rfl (hbare) rfl rfl (by simp) rfl ?_
    simp [-cB, wb, hk]
    refine AOps.effD [5001, 5002] rfl (lay0_ok b ((l ++ [GIns.mk 37 0]) ++ p1) p2 27 (by simp <;> omega)) (by simp [wb]) rfl (by simp) rfl (by kernel_rfl) (by simp [wb]) (by simp [wb]) (by simp [wb]) (by simp [wb]) (by simp [wb]) ?_
    simp [wb, tick, hk, deedM]
  · refine ACalls.runP [5001, 5002] (by simp) Tryz.func177 rfl (by simp [Tryz.f177]) ?_; simp [-cB, Tryz.f177, hk]
    intro bs
    refine AOps.effD [5001, 5002] rfl (lay0_ok b l n 37 (by omega)) (by simp [wb]) rfl (by simp) rfl (by kernel_rfl) (by simp [wb]) (by simp [wb]) (by simp [wb]) (by simp [wb]) (by simp [wb]) ?_
    simp [-cB, wb, hk]
    refine AOps.effD [5001, 5002] rfl (wA b (l ++ [GIns.mk 37 0]) ⟨by omega, by omega, by simp <;> omega⟩) (by simp [wb]) rfl (by simp) rfl (by kernel_rfl) (by simp [wb]) (by simp [wb]) (by simp [wb]) (by simp [wb]) (by simp [wb]) ?_
    simp [-cB, wb, hk]
    have hbare := bareN_ok 13
    rw [show bareN 13 = 28 by simp [bareN]] at hbare
    refine AOps.pureC rfl (hbare) rfl rfl (by simp) rfl ?_
    simp [-cB, wb, hk]
    refine AOps.effD [5001, 5002] rfl (lay0_ok b ((l ++ [GIns.mk 37 0]) ++ p1) p2 28 (by simp <;> omega)) (by simp [wb]) rfl (by simp) rfl (by kernel_rfl) (by simp [wb]) (by simp [wb]) (by simp [wb]) (by simp [wb]) (by simp [wb]) ?_
    simp [wb, tick, hk, deedM]
  · refine ACalls.runP [5001, 5002] (by simp) Tryz.func177 rfl (by simp [Tryz.f177]) ?_; simp [-cB, Tryz.f177, hk]
    intro bs
    refine AOps.effD [5001, 5002] rfl (lay0_ok b l n 37 (by omega)) (by simp [wb]) rfl (by simp) rfl (by kernel_rfl) (by simp [wb]) (by simp [wb]) (by simp [wb]) (by simp [wb]) (by simp [wb]) ?_
    simp [-cB, wb, hk]
    refine AOps.effD [5001, 5002] rfl (wA b (l ++ [GIns.mk 37 0]) ⟨by omega, by omega, by simp <;> omega⟩) (by simp [wb]) rfl (by simp) rfl (by kernel_rfl) (by simp [wb]) (by simp [wb]) (by simp [wb]) (by simp [wb]) (by simp [wb]) ?_
    simp [-cB, wb, hk]
    have hbare := bareN_ok 14
    rw [show bareN 14 = 29 by simp [bareN]] at hbare
    refine AOps.pureC rfl (hbare) rfl rfl (by simp) rfl ?_
    simp [-cB, wb, hk]
    refine AOps.effD [5001, 5002] rfl (lay0_ok b ((l ++ [GIns.mk 37 0]) ++ p1) p2 29 (by simp <;> omega)) (by simp [wb]) rfl (by simp) rfl (by kernel_rfl) (by simp [wb]) (by simp [wb]) (by simp [wb]) (by simp [wb]) (by simp [wb]) ?_
    simp [wb, tick, hk, deedM]
  · refine ACalls.runP [5001, 5002] (by simp) Tryz.func177 rfl (by simp [Tryz.f177]) ?_; simp [-cB, Tryz.f177, hk]
    intro bs
    refine AOps.effD [5001, 5002] rfl (lay0_ok b l n 37 (by omega)) (by simp [wb]) rfl (by simp) rfl (by kernel_rfl) (by simp [wb]) (by simp [wb]) (by simp [wb]) (by simp [wb]) (by simp [wb]) ?_
    simp [-cB, wb, hk]
    refine AOps.effD [5001, 5002] rfl (wA b (l ++ [GIns.mk 37 0]) ⟨by omega, by omega, by simp <;> omega⟩) (by simp [wb]) rfl (by simp) rfl (by kernel_rfl) (by simp [wb]) (by simp [wb]) (by simp [wb]) (by simp [wb]) (by simp [wb]) ?_
    simp [-cB, wb, hk]
    have hbare := bareN_ok 15
    rw [show bareN 15 = 30 by simp [bareN]] at hbare
    refine AOps.pureC rfl (hbare) rfl rfl (by simp) rfl ?_
    simp [-cB, wb, hk]
    refine AOps.effD [5001, 5002] rfl (lay0_ok b ((l ++ [GIns.mk 37 0]) ++ p1) p2 30 (by simp <;> omega)) (by simp [wb]) rfl (by simp) rfl (by kernel_rfl) (by simp [wb]) (by simp [wb]) (by simp [wb]) (by simp [wb]) (by simp [wb]) ?_
    simp [wb, tick, hk, deedM]
  · refine ACalls.runP [5001, 5002] (by simp) Tryz.func177 rfl (by simp [Tryz.f177]) ?_; simp [-cB, Tryz.f177, hk]
    intro bs
    refine AOps.effD [5001, 5002] rfl (lay0_ok b l n 37 (by omega)) (by simp [wb]) rfl (by simp) rfl (by kernel_rfl) (by simp [wb]) (by simp [wb]) (by simp [wb]) (by simp [wb]) (by simp [wb]) ?_
    simp [-cB, wb, hk]
    refine AOps.effD [5001, 5002] rfl (wA b (l ++ [GIns.mk 37 0]) ⟨by omega, by omega, by simp <;> omega⟩) (by simp [wb]) rfl (by simp) rfl (by kernel_rfl) (by simp [wb]) (by simp [wb]) (by simp [wb]) (by simp [wb]) (by simp [wb]) ?_
    simp [-cB, wb, hk]
    have hbare := bareN_ok 16
    rw [show bareN 16 = 31 by simp [bareN]] at hbare
    refine AOps.pureC rfl (hbare) rfl rfl (by simp) rfl ?_
    simp [-cB, wb, hk]
    refine AOps.effD [5001, 5002] rfl (lay0_ok b ((l ++ [GIns.mk 37 0]) ++ p1) p2 31 (by simp <;> omega)) (by simp [wb]) rfl (by simp) rfl (by kernel_rfl) (by simp [wb]) (by simp [wb]) (by simp [wb]) (by simp [wb]) (by simp [wb]) ?_
    simp [wb, tick, hk, deedM]
  · refine ACalls.runP [5001, 5002] (by simp) Tryz.func177 rfl (by simp [Tryz.f177]) ?_; simp [-cB, Tryz.f177, hk]
    intro bs
    refine AOps.effD [5001, 5002] rfl (lay0_ok b l n 37 (by omega)) (by simp [wb]) rfl (by simp) rfl (by kernel_rfl) (by simp [wb]) (by simp [wb]) (by simp [wb]) (by simp [wb]) (by simp [wb]) ?_
    simp [-cB, wb, hk]
    refine AOps.effD [5001, 5002] rfl (wA b (l ++ [GIns.mk 37 0]) ⟨by omega, by omega, by simp <;> omega⟩) (by simp [wb]) rfl (by simp) rfl (by kernel_rfl) (by simp [wb]) (by simp [wb]) (by simp [wb]) (by simp [wb]) (by simp [wb]) ?_
    simp [-cB, wb, hk]
    have hbare := bareN_ok 20
    rw [show bareN 20 = 34 by simp [bareN]] at hbare
    refine AOps.pureC rfl (hbare) rfl rfl (by simp) rfl ?_
    simp [-cB, wb, hk]
    refine AOps.effD [5001, 5002] rfl (lay0_ok b ((l ++ [GIns.mk 37 0]) ++ p1) p2 34 (by simp <;> omega)) (by simp [wb]) rfl (by simp) rfl (by kernel_rfl) (by simp [wb]) (by simp [wb]) (by simp [wb]) (by simp [wb]) (by simp [wb]) ?_
    simp [wb, tick, hk, deedM]
  · refine ACalls.runP [5001, 5002] (by simp) Tryz.func177 rfl (by simp [Tryz.f177]) ?_; simp [-cB, Tryz.f177, hk]
    intro bs
    refine AOps.effD [5001, 5002] rfl (lay0_ok b l n 37 (by omega)) (by simp [wb]) rfl (by simp) rfl (by kernel_rfl) (by simp [wb]) (by simp [wb]) (by simp [wb]) (by simp [wb]) (by simp [wb]) ?_
    simp [-cB, wb, hk]
    refine AOps.effD [5001, 5002] rfl (wA b (l ++ [GIns.mk 37 0]) ⟨by omega, by omega, by simp <;> omega⟩) (by simp [wb]) rfl (by simp) rfl (by kernel_rfl) (by simp [wb]) (by simp [wb]) (by simp [wb]) (by simp [wb]) (by simp [wb]) ?_
    simp [-cB, wb, hk]
    have hbare := bareN_ok 21
    rw [show bareN 21 = 35 by simp [bareN]] at hbare
    refine AOps.pureC rfl (hbare) rfl rfl (by simp) rfl ?_
    simp [-cB, wb, hk]
    refine AOps.effD [5001, 5002] rfl (lay0_ok b ((l ++ [GIns.mk 37 0]) ++ p1) p2 35 (by simp <;> omega)) (by simp [wb]) rfl (by simp) rfl (by kernel_rfl) (by simp [wb]) (by simp [wb]) (by simp [wb]) (by simp [wb]) (by simp [wb]) ?_
    simp [wb, tick, hk, deedM]
  · refine ACalls.runP [5001, 5002] (by simp) Tryz.func177 rfl (by simp [Tryz.f177]) ?_; simp [-cB, Tryz.f177, hk]
    intro bs
    refine AOps.effD [5001, 5002] rfl (lay0_ok b l n 37 (by omega)) (by simp [wb]) rfl (by simp) rfl (by kernel_rfl) (by simp [wb]) (by simp [wb]) (by simp [wb]) (by simp [wb]) (by simp [wb]) ?_
    simp [-cB, wb, hk]
    refine AOps.effD [5001, 5002] rfl (wA b (l ++ [GIns.mk 37 0]) ⟨by omega, by omega, by simp <;> omega⟩) (by simp [wb]) rfl (by simp) rfl (by kernel_rfl) (by simp [wb]) (by simp [wb]) (by simp [wb]) (by simp [wb]) (by simp [wb]) ?_
    simp [-cB, wb, hk]
    have hbare := bareN_ok 22
    rw [show bareN 22 = 36 by simp [bareN]] at hbare
    refine AOps.pureC rfl (hbare) rfl rfl (by simp) rfl ?_
    simp [-cB, wb, hk]
    refine AOps.effD [5001, 5002] rfl (lay0_ok b ((l ++ [GIns.mk 37 0]) ++ p1) p2 36 (by simp <;> omega)) (by simp [wb]) rfl (by simp) rfl (by kernel_rfl) (by simp [wb]) (by simp [wb]) (by simp [wb]) (by simp [wb]) (by simp [wb]) ?_
    simp [wb, tick, hk, deedM]
theorem wSay_of (s : GStmt) (hk : s.Kind = 1) (hlen : s.Args.length ≤ 1000000000000000) (hX : ∀ x ∈ s.Args, x.Kind ≠ 19 → (if x.Kind = 13 then WEs x.Args else WExpr x)) : WSt 181 s := by
  intro b l n hn
  rw [genS_say s n hk]
  have hz := szS_eq s
  unfold WCalls wb
  refine ACalls.runP [5001, 5002] (by simp) Tryz.func181 rfl (by simp [Tryz.f181]) ?_; simp [-cB, Tryz.f181]
  intro bs
  refine AOps.effD [5001, 5002] rfl (lay0_ok b l n 37 (by omega)) (by simp [wb]) rfl (by simp) rfl (by kernel_rfl) (by simp [wb]) (by simp [wb]) (by simp [wb]) (by simp [wb]) (by simp [wb]) ?_
  simp [-cB, wb]
  refine AWP.loopL [0, 9, 10, 11] s.Args (fun pre => [(11, .d (.v (.int .i64 pre.length)))]) (fun pre => [(5001, .box (b + 1) 125 [.rv 5002, .d (.v (.int .i64 (genSay pre n).2))]), (5002, .row 116 2 (dd ((l ++ [GIns.mk 37 0] ++ (genSay pre n).1).map GIns.enc)))]) (fun _ => True) (by rfl) (by omega) (by simp [genSay]) ?_ ?_
  · rintro pre x post hsp - hlt hge a4
    have hx := hX x (by rw [hsp]; simp)
    have hsn := genSay_snoc pre x n
    have hsz : szEs pre + szE x ≤ szEs s.Args := by rw [hsp, szEs_app]; simp only [szEs]; omega
    have b1 := genSay_bd pre n
    have b2 := sayI_bd x (genSay pre n).2
    have hzx := szE_eq x
    clear hsp hX
    generalize genSay pre n = k at *
    obtain ⟨k1, k2⟩ := k
    simp only at hsn b1 b2 ⊢
    by_cases h19 : x.Kind = 19
    · have hI : sayI x k2 = ([⟨21, x.Num⟩], k2) := by simp [sayI, h19]
      rw [hI] at hsn
      simp [-cB, hlt, hge, h19]
      intro bs2
      refine AOps.weaken (Wk.freeze 27 (ys := encI [x.Num]) rfl) ?_
      simp [-cB]
      refine AOps.effD [5001, 5002] rfl (lay1_ok b (l ++ [GIns.mk 37 0] ++ k1) k2 21 x.Num (by simp <;> omega)) (by simp [wb]) rfl (by simp) rfl (by kernel_rfl) (by simp [wb]) (by simp [wb]) (by simp [wb]) (by simp [wb]) (by simp [wb]) ?_
      simp [wb, hsn, a4]
    · have hx := hx h19
      have e19 : (x.Kind == 19) = false := by simp [h19]
      by_cases h13 : x.Kind = 13
      · rw [if_pos h13] at hx
        have hI : sayI x k2 = ((genEs x.Args k2).1 ++ [⟨23, 0⟩], (genEs x.Args k2).2) := by simp [sayI, h13]
        have hC := hx b (l ++ [GIns.mk 37 0] ++ k1) k2 ⟨by omega, by omega, by simp <;> omega⟩
        rw [hI] at hsn
        have b3 := genEs_bd' x.Args k2
        generalize genEs x.Args k2 = q at *
        obtain ⟨q1, q2⟩ := q
        simp only at hsn hC b3
        unfold WCalls wb at hC
        simp [-cB, hlt, hge, h13]
        intro bs2
        refine AOps.effD [5001, 5002] rfl (hC) (by simp [wb]) rfl (by simp) rfl (by kernel_rfl) (by simp [wb]) (by simp [wb]) (by simp [wb]) (by simp [wb]) (by simp [wb]) ?_
        simp [-cB, wb]
        refine AOps.effD [5001, 5002] rfl (lay0_ok b (l ++ [GIns.mk 37 0] ++ k1 ++ q1) q2 23 (by simp <;> omega)) (by simp [wb]) rfl (by simp) rfl (by kernel_rfl) (by simp [wb]) (by simp [wb]) (by simp [wb]) (by simp [wb]) (by simp [wb]) ?_
        simp [wb, hsn, a4]
      · rw [if_neg h13] at hx
        have e13 : (x.Kind == 13) = false := by simp [h13]
        have hI : sayI x k2 = ((genE x k2).1 ++ [⟨22, 0⟩], (genE x k2).2) := by simp [sayI, h13, h19]
        have hC := hx b (l ++ [GIns.mk 37 0] ++ k1) k2 ⟨by omega, by omega, by simp <;> omega⟩
        rw [hI] at hsn
        have b3 := genE_bd x k2
        generalize genE x k2 = q at *
        obtain ⟨q1, q2⟩ := q
        simp only at hsn hC b3
        unfold WCalls wb at hC
        simp [-cB, hlt, hge, e19, e13]
        intro bs2
        refine AOps.effD [5001, 5002] rfl (hC) (by simp [wb]) rfl (by simp) rfl (by kernel_rfl) (by simp [wb]) (by simp [wb]) (by simp [wb]) (by simp [wb]) (by simp [wb]) ?_
        simp [-cB, wb]
        refine AOps.effD [5001, 5002] rfl (lay0_ok b (l ++ [GIns.mk 37 0] ++ k1 ++ q1) q2 22 (by simp <;> omega)) (by simp [wb]) rfl (by simp) rfl (by kernel_rfl) (by simp [wb]) (by simp [wb]) (by simp [wb]) (by simp [wb]) (by simp [wb]) ?_
        simp [wb, hsn, a4]
  · intro _
    simp [tick]
end Go.Ab

namespace Go.Ab
open Go.Proofs
set_option maxRecDepth 40000
set_option maxHeartbeats 4000000
theorem WSt.stmt {s : GStmt} (h9 : s.Kind = 9 → WSt 178 s) (h10 : s.Kind = 10 → WSt 179 s) (h11 : s.Kind = 11 → WSt 180 s) (h1 : s.Kind = 1 → WSt 181 s)
    (hp : s.Kind ≠ 9 → s.Kind ≠ 10 → s.Kind ≠ 11 → s.Kind ≠ 1 → WSt 177 s) : WSt 133 s := by
  intro b l n hn
  by_cases k9 : s.Kind = 9
  · have hC := h9 k9 b l n hn
    unfold WCalls wb at *
    refine ACalls.runP [5001, 5002] (by simp) Tryz.func133 rfl (by simp [Tryz.f133]) ?_; simp [-cB, Tryz.f133, k9]
    intro bs
    refine AOps.effD [5001, 5002] rfl (hC) (by simp [wb]) rfl (by simp) rfl (by kernel_rfl) (by simp [wb]) (by simp [wb]) (by simp [wb]) (by simp [wb]) (by simp [wb]) ?_
    simp [wb]
  have e9 : (s.Kind == 9) = false := by simp [k9]
  by_cases k10 : s.Kind = 10
  · have hC := h10 k10 b l n hn
    unfold WCalls wb at *
    refine ACalls.runP [5001, 5002] (by simp) Tryz.func133 rfl (by simp [Tryz.f133]) ?_; simp [-cB, Tryz.f133, k10]
    intro bs
    refine AOps.effD [5001, 5002] rfl (hC) (by simp [wb]) rfl (by simp) rfl (by kernel_rfl) (by simp [wb]) (by simp [wb]) (by simp [wb]) (by simp [wb]) (by simp [wb]) ?_
    simp [wb]
  have e10 : (s.Kind == 10) = false := by simp [k10]
  by_cases k11 : s.Kind = 11
  · have hC := h11 k11 b l n hn
    unfold WCalls wb at *
    refine ACalls.runP [5001, 5002] (by simp) Tryz.func133 rfl (by simp [Tryz.f133]) ?_; simp [-cB, Tryz.f133, k11]
    intro bs
    refine AOps.effD [5001, 5002] rfl (hC) (by simp [wb]) rfl (by simp) rfl (by kernel_rfl) (by simp [wb]) (by simp [wb]) (by simp [wb]) (by simp [wb]) (by simp [wb]) ?_
    simp [wb]
  have e11 : (s.Kind == 11) = false := by simp [k11]
  by_cases k1 : s.Kind = 1
  · have hC := h1 k1 b l n hn
    unfold WCalls wb at *
    refine ACalls.runP [5001, 5002] (by simp) Tryz.func133 rfl (by simp [Tryz.f133]) ?_; simp [-cB, Tryz.f133, k1]
    intro bs
    refine AOps.effD [5001, 5002] rfl (hC) (by simp [wb]) rfl (by simp) rfl (by kernel_rfl) (by simp [wb]) (by simp [wb]) (by simp [wb]) (by simp [wb]) (by simp [wb]) ?_
    simp [wb]
  have e1 : (s.Kind == 1) = false := by simp [k1]
  have hC := hp k9 k10 k11 k1 b l n hn
  unfold WCalls wb at *
  refine ACalls.runP [5001, 5002] (by simp) Tryz.func133 rfl (by simp [Tryz.f133]) ?_; simp [-cB, Tryz.f133, e9, e10, e11, e1]
  intro bs
  refine AOps.effD [5001, 5002] rfl (hC) (by simp [wb]) rfl (by simp) rfl (by kernel_rfl) (by simp [wb]) (by simp [wb]) (by simp [wb]) (by simp [wb]) (by simp [wb]) ?_
  simp [wb]
theorem wBlock_of (ss : List GStmt) (hlen : ss.length ≤ 1000000000000000) (ih : ∀ s ∈ ss, WSt 133 s) : WBlock ss := by
  intro b l n hn
  unfold WCalls wb
  refine ACalls.runP [5001, 5002] (by simp) Tryz.func89 rfl (by simp [Tryz.f89]) ?_; simp [Tryz.f89]
  refine AWP.loopL [0, 6, 7, 8] ss (fun pre => [(8, .d (.v (.int .i64 pre.length)))]) (fun pre => [(5001, .box (b + 1) 125 [.rv 5002, .d (.v (.int .i64 (genB pre n).2))]), (5002, .row 116 2 (dd ((l ++ (genB pre n).1).map GIns.enc)))]) (fun _ => True) (by rfl) (by omega) (by simp [genB]) ?_ ?_
  · rintro pre s post hsp - hlt hge a4
    have hS := ih s (by rw [hsp]; simp)
    have hsn := genB_snoc pre s n
    have hsz : szB pre + szS s ≤ szB ss := by rw [hsp, szB_app]; simp only [szB]; omega
    have b1 := genB_bd' pre n
    clear hsp ih
    generalize genB pre n = k at *
    obtain ⟨k1, k2⟩ := k
    simp only at hsn b1 ⊢
    have hC := hS b (l ++ k1) k2 ⟨by omega, by omega, by rw [List.length_append]; omega⟩
    have b2 := genS_bd s k2
    generalize genS s k2 = q at *
    obtain ⟨q1, q2⟩ := q
    simp only at hsn hC b2
    simp [hlt, hge]
    intro bs
    refine AOps.effD [5001, 5002] rfl (hC) (by simp [wb]) rfl (by simp) rfl (by kernel_rfl) (by simp [wb]) (by simp [wb]) (by simp [wb]) (by simp [wb]) (by simp [wb]) ?_
    simp [hsn, a4, wb]
  · intro _
    simp
theorem shape_kind {s : GStmt} (h : (shapeM s).1 = true) : s.Kind = 1 ∨ s.Kind = 9 ∨ s.Kind = 10 ∨ s.Kind = 11 ∨ s.Kind = 2 ∨ s.Kind = 3 ∨ s.Kind = 23 ∨ s.Kind = 4 ∨ s.Kind = 5 ∨ s.Kind = 6 ∨ s.Kind = 17 ∨ s.Kind = 18 ∨ s.Kind = 19 ∨ s.Kind = 7 ∨ s.Kind = 8 ∨ s.Kind = 12 ∨ s.Kind = 13 ∨ s.Kind = 14 ∨ s.Kind = 15 ∨ s.Kind = 16 ∨ s.Kind = 20 ∨ s.Kind = 21 ∨ s.Kind = 22 := by
  refine Decidable.byContradiction fun hn => ?_
  simp only [not_or] at hn
  obtain ⟨n1, n9, n10, n11, n2, n3, n23, n4, n5, n6, n17, n18, n19, n7, n8, n12, n13, n14, n15, n16, n20, n21, n22⟩ := hn
  simp [shapeM, n1, n9, n10, n11, n2, n3, n23, n4, n5, n6, n17, n18, n19, n7, n8, n12, n13, n14, n15, n16, n20, n21, n22] at h
theorem each_num {t : GTables} {locals : Int} (hlo : inR .i64 locals) {s : GStmt} (p2 : thereM t s locals = true) (k11 : s.Kind = 11) : inR .i64 (s.Num + 1) := by
  have hnm : s.Name.toList = [] ∧ s.Num < locals - 1 := by
    unfold thereM at p2
    cases h : s.Name.toList with
    | nil => simp [h, k11] at p2; exact ⟨rfl, by omega⟩
    | cons a l => simp [h] at p2
  have h0 : 0 ≤ s.Num := by simp [thereM, hnm.1, k11] at p2; omega
  rw [inR_i64] at hlo ⊢
  omega
theorem wStmt_ok (t : GTables) (locals : Int) (hlo : inR .i64 locals) (s : GStmt) (hw : s.wf) (hb : boundS t locals s = true) : WSt 133 s := by
  obtain ⟨N, hN⟩ : ∃ N, SizeOf.sizeOf s < N := ⟨_, Nat.lt_succ_self _⟩
  induction N generalizing s with
  | zero => omega
  | succ N ih =>
    obtain ⟨p1, p2, p3, p4, p5⟩ := boundS_parts hb
    have hla := GStmt.wl_Args hw
    have hlb := GStmt.wl_Body hw
    have hle := GStmt.wl_Else hw
    have hB : WBlock s.Body := wBlock_of s.Body (by omega) (fun x hx => ih x (GStmt.wf_Body hw x hx) (p4 x hx) (by have := GStmt.lt_body s; have := List.sizeOf_lt_of_mem hx; omega))
    have hE : WBlock s.Else := wBlock_of s.Else (by omega) (fun x hx => ih x (GStmt.wf_Else hw x hx) (p5 x hx) (by have := GStmt.lt_else s; have := List.sizeOf_lt_of_mem hx; omega))
    have hEs : s.Kind ≠ 1 → WEs s.Args := fun k1 b l n hn => wexprs_of s.Args (by omega) b l n hn (fun x hx => wexpr_ok t locals x (GStmt.wf_Args hw x hx) (by
      have := p3 x hx
      rwa [show decide (s.Kind = 1) = false by simp [k1]] at this))
    refine WSt.stmt (fun k => ?_) (fun k => wWhile_of s (hEs (by omega)) hB k) (fun k => wEach_of s (hEs (by omega)) hB k (each_num hlo p2 k)) (fun k => ?_) (fun h9 h10 h11 h1 => ?_)
    · by_cases he : s.Else = []
      · exact wIf0_of s (hEs (by omega)) hB k he
      · exact wIf1_of s (hEs (by omega)) hB hE k he
    · refine wSay_of s k (by omega) (fun x hx h19 => ?_)
      have hbx := p3 x hx
      rw [show decide (s.Kind = 1) = true by simp [k]] at hbx
      have hwx := GStmt.wf_Args hw x hx
      split
      · rename_i h13
        have hlx := GExpr.wl_Args hwx
        exact fun b l n hn => wexprs_of x.Args (by omega) b l n hn (fun y hy => wexpr_ok t locals y (GExpr.wf_Args hwx y hy) (bound_mem hbx hy))
      · rename_i h13
        exact wexpr_ok t locals x hwx (bound_said hbx h19 h13)
    · refine wPlain_of s (hEs h1) h9 h10 h11 h1 ?_
      have := shape_kind p1
      omega
end Go.Ab

namespace Go.Ab
open Go.Proofs
set_option maxRecDepth 40000
set_option maxHeartbeats 4000000
section
variable {t : GTables} {locals : Int} {l : List GStmt}
theorem wBlock_ok (hlo : inR .i64 locals) (hl : ∀ s ∈ l, s.wf) (hlen : l.length * 104 ≤ 140737488351232) (hb : boundB t locals l = true) : WBlock l := by
  unfold boundB at hb
  rw [Bool.and_eq_true, boundSs_all, List.all_eq_true] at hb
  exact wBlock_of l (by omega) (fun s hs => wStmt_ok t locals hlo s (hl s hs) (hb.1 s hs))
end
theorem genRoutine_ok (l : List GStmt) (hl : WBlock l) (hn : szB l ≤ 30000000) : Pure Tryz.prog 41 [.d (.sl (l.map GStmt.enc))] (.d (.sl (((genB l 0).1 ++ [GIns.mk 1 0, GIns.mk 27 0]).map GIns.enc))) := by
  have hc := fun b => hl b [] 0 ⟨by omega, by omega, by simp <;> omega⟩
  have bd := genB_bd' l 0
  generalize genB l 0 = q at *
  obtain ⟨q1, q2⟩ := q
  simp only [List.nil_append] at hc bd ⊢
  refine Pure.run Tryz.func41 rfl (by simp [Tryz.f41]) ?_; simp [Tryz.f41]
  intro bs
  refine AOps.weaken ((Wk.ren 5 5001 (by simp)).trans (Wk.ownBox 5001 0 5002 (e := 116) (k := 2) rfl rfl (by simp))) ?_
  simp [Heap.upd]
  refine AOps.weaken (Wk.pick [7, 6, 3, 2] [5001, 5002] (by rfl) (by simp) (by simp)) ?_
  simp
  refine AOps.effD [5001, 5002] rfl (hc (bs 0)) (by simp [wb]) rfl (by simp) rfl (by kernel_rfl) (by simp [wb]) (by simp [wb]) (by simp [wb]) (by simp [wb]) (by simp [wb]) ?_
  simp [wb]
  refine AOps.effD [5001, 5002] rfl (lay0_ok (bs 0) q1 q2 1 (by omega)) (by simp [wb]) rfl (by simp) rfl (by kernel_rfl) (by simp [wb]) (by simp [wb]) (by simp [wb]) (by simp [wb]) (by simp [wb]) ?_
  simp [wb]
  refine AOps.effD [5001, 5002] rfl (lay0_ok (bs 0) (q1 ++ [GIns.mk 1 0]) q2 27 (by simp <;> omega)) (by simp [wb]) rfl (by simp) rfl (by kernel_rfl) (by simp [wb]) (by simp [wb]) (by simp [wb]) (by simp [wb]) (by simp [wb]) ?_
  simp [wb]
end Go.Ab

namespace Go.Ab
open Go.Proofs
mutual
def hasKS (k : Int) : GStmt → Bool
  | .mk a _ _ _ b c => decide (a = k) || hasKB k b || hasKB k c
def hasKB (k : Int) : List GStmt → Bool
  | [] => false
  | s :: l => hasKS k s || hasKB k l
end
theorem hasKS_eq (k : Int) (s : GStmt) : hasKS k s = (decide (s.Kind = k) || hasKB k s.Body || hasKB k s.Else) := by cases s; rw [hasKS]; rfl
theorem hasKB_any (k : Int) (l : List GStmt) : hasKB k l = l.any (hasKS k) := by
  induction l with
  | nil => rw [hasKB]; rfl
  | cons s l ih => rw [hasKB, ih]; rfl
theorem hasKind_ok (k : Int) : ∀ (n : Nat) (l : List GStmt), SizeOf.sizeOf l < n → (∀ s ∈ l, s.wf) → l.length * 104 ≤ 140737488351232 → Pure Tryz.prog 21 [.d (.sl (l.map GStmt.enc)), intD k] (boolD (hasKB k l)) := by
  intro n
  induction n with
  | zero => intro l hn; omega
  | succ n ih =>
    intro l hn hl hlen
    have hsub : ∀ s ∈ l, Pure Tryz.prog 21 [.d (.sl (s.Body.map GStmt.enc)), intD k] (boolD (hasKB k s.Body)) ∧ Pure Tryz.prog 21 [.d (.sl (s.Else.map GStmt.enc)), intD k] (boolD (hasKB k s.Else)) := by
      intro s hs
      have h1 := List.sizeOf_lt_of_mem hs
      have hw := hl s hs
      have h2 := GStmt.lt_body s
      have h3 := GStmt.lt_else s
      exact ⟨ih s.Body (by omega) (GStmt.wf_Body hw) (GStmt.wl_Body hw), ih s.Else (by omega) (GStmt.wf_Else hw) (GStmt.wl_Else hw)⟩
    refine Pure.run Tryz.func21 rfl (by simp [Tryz.f21]) ?_; simp [-cB, Tryz.f21]
    refine AWP.loopL [0, 1, 5] l (fun pre => [(5, intD pre.length)]) (fun _ => []) (fun pre => pre.any (hasKS k) = false) (by rfl) (by omega) (by simp) ?_ ?_
    · rintro pre s post hsp hpre hlt hge a4
      have hS := hsub s (by rw [hsp]; simp)
      have hyes : hasKS k s = true → hasKB k l = true := fun h => by rw [hasKB_any, hsp]; simp [h]
      have hno : hasKS k s = false → (pre ++ [s]).any (hasKS k) = false := fun h => by rw [List.any_append, hpre]; simp [h]
      rw [hasKS_eq] at hyes hno
      have hsp' := hsp.symm
      clear ih hsub hlen hn hsp
      have hag : ∀ {f : FuncId} {args : List V} {x : V}, False → Pure Tryz.prog f args x := fun h => h.elim
      simp [-cB, hlt, hge]
      repeat' (first
        | (with_reducible refine And.intro ?_ ?_)
        | (refine condC_split (fun h => ?_) (fun h => ?_) <;> (try simp at h) <;> (try simp [-cB, *, hlt, hge]))
        | (refine AOps.pureC rfl (hS.1) rfl rfl (by simp) rfl ?_ <;> (try simp [-cB, *, hlt, hge]))
        | (refine AOps.pureC rfl (hS.2) rfl rfl (by simp) rfl ?_ <;> (try simp [-cB, *, hlt, hge]))
        | (refine AOps.lendC rfl (hS.1) rfl (by simp) rfl rfl (by simp) rfl ?_ <;> (try simp [-cB, *, hlt, hge]))
        | (refine AOps.lendC rfl (hS.2) rfl (by simp) rfl rfl (by simp) rfl ?_ <;> (try simp [-cB, *, hlt, hge]))
        | (refine AOps.pureG rfl (fun h => hS.1) rfl (by first | rfl | (simp; rfl)) (by simp) (by simp) rfl ?_ <;> (try simp [-cB, *, hlt, hge]))
        | (refine AOps.pureG rfl (fun h => hS.2) rfl (by first | rfl | (simp; rfl)) (by simp) (by simp) rfl ?_ <;> (try simp [-cB, *, hlt, hge]))
        | (with_reducible intro _))
      rename_i y hy
      have h2 := hno (by simp [h])
      rw [List.any_eq_false] at h2
      simpa using h2 y (by simpa using hy)
    · intro hall
      rw [hasKB_any, hall]
      simp
def ruledB (t : GTables) (i : Int) : Bool := t.Deeds.any fun d => decide (d.Body = i)
def calledB (t : GTables) (i : Int) : Bool := (t.Funcs.any fun f => decide (f = i)) || (t.Deeds.any fun d => decide (d.When = i)) || t.Things.any fun x => x.Ways.any fun w => decide (w.When = i)
theorem ruled_ok (t : GTables) (ht : t.wf) (i : Int) : Pure Tryz.prog 23 [.agg (t.enc.map .d), intD i] (boolD (ruledB t i)) := by
  have hlen := GTables.wl_Deeds ht
  refine Pure.run Tryz.func23 rfl (by simp [Tryz.f23]) ?_; simp [-cB, Tryz.f23]
  intro bs
  refine AWP.loopL [1, 2, 5] t.Deeds (fun pre => [(5, intD pre.length)]) (fun _ => []) (fun pre => (pre.any fun d => decide (d.Body = i)) = false) (by rfl) (by omega) (by simp) ?_ ?_
  · rintro pre s post hsp hpre hlt hge a4
    have hyes : s.Body = i → ruledB t i = true := fun h => by unfold ruledB; rw [hsp]; simp [h]
    have hno : ¬ s.Body = i → ((pre ++ [s]).any fun d => decide (d.Body = i)) = false := fun h => by rw [List.any_append, hpre]; simp [h]
    clear hsp
    by_cases h : s.Body = i
    · simp [hlt, hge, h, hyes h]
    · simp [hlt, hge, h]
      refine ⟨a4, fun y hy => ?_⟩
      have h2 := hno h
      rw [List.any_eq_false] at h2
      simpa using h2 y (by simpa using hy)
  · intro hall
    simp [ruledB, hall]
theorem called_ok (t : GTables) (ht : t.wf) (i : Int) : Pure Tryz.prog 22 [.agg (t.enc.map .d), intD i] (boolD (calledB t i)) := by
  have hlen := GTables.wl_Deeds ht
  have hlenF := GTables.wl_Funcs ht
  have hlenT := GTables.wl_Things ht
  have hwt := GTables.wf_Things ht
  refine Pure.run Tryz.func22 rfl (by simp [Tryz.f22]) ?_; simp [-cB, Tryz.f22]
  intro bs
  refine AWP.loopL [1, 2, 5] t.Funcs (fun pre => [(5, intD pre.length)]) (fun _ => []) (fun pre => (pre.any fun d => decide (d = i)) = false) (by rfl) (by omega) (by simp) ?_ ?_
  · rintro pre s post hsp hpre hlt hge a4
    have hyes : s = i → calledB t i = true := fun h => by unfold calledB; rw [hsp]; simp [h]
    have hno : ¬ s = i → ((pre ++ [s]).any fun d => decide (d = i)) = false := fun h => by rw [List.any_append, hpre]; simp [h]
    clear hsp
    by_cases h : s = i
    · simp [hlt, hge, h, hyes h]
    · simp [hlt, hge, h]
      refine ⟨a4, fun y hy => ?_⟩
      have h2 := hno h
      rw [List.any_eq_false] at h2
      simpa using h2 y (by simpa using hy)
  · intro hallF
    simp
    refine AWP.loopL [1, 2, 6] t.Deeds (fun pre => [(6, intD pre.length)]) (fun _ => []) (fun pre => (pre.any fun d => decide (d.When = i)) = false) (by rfl) (by omega) (by simp) ?_ ?_
    · rintro pre s post hsp hpre hlt hge a4
      have hyes : s.When = i → calledB t i = true := fun h => by unfold calledB; rw [hsp]; simp [h]
      have hno : ¬ s.When = i → ((pre ++ [s]).any fun d => decide (d.When = i)) = false := fun h => by rw [List.any_append, hpre]; simp [h]
      clear hsp
      by_cases h : s.When = i
      · simp [hlt, hge, h, hyes h]
      · simp [hlt, hge, h]
        refine ⟨a4, fun y hy => ?_⟩
        have h2 := hno h
        rw [List.any_eq_false] at h2
        simpa using h2 y (by simpa using hy)
    · intro hallD
      simp
      refine AWP.loopL [1, 2, 7] t.Things (fun pre => [(7, intD pre.length)]) (fun _ => []) (fun pre => (pre.any fun x => x.Ways.any fun w => decide (w.When = i)) = false) (by rfl) (by omega) (by simp) ?_ ?_
      · rintro pre s post hsp hpre hlt hge a4
        have hwl := GThing.wl_Ways (hwt s (by rw [hsp]; simp))
        have hyes : (s.Ways.any fun w => decide (w.When = i)) = true → calledB t i = true := fun h => by unfold calledB; rw [hsp]; simp only [List.any_append, List.any_cons, h]; simp
        have hno : (s.Ways.any fun w => decide (w.When = i)) = false → ((pre ++ [s]).any fun x => x.Ways.any fun w => decide (w.When = i)) = false := fun h => by rw [List.any_append, hpre]; simp only [List.any_cons, h, List.any_nil]; rfl
        clear hsp
        simp [hlt, hge]
        refine AWP.loopL [1, 2, 7, 8, 9] s.Ways (fun pre => [(9, intD pre.length)]) (fun _ => []) (fun pre => (pre.any fun w => decide (w.When = i)) = false) (by rfl) (by omega) (by simp) ?_ ?_
        · rintro pre' u post' hsp' hpre' hlt' hge' a4'
          have hyes' : u.When = i → calledB t i = true := fun h => hyes (by rw [hsp']; simp [h])
          have hno' : ¬ u.When = i → ((pre' ++ [u]).any fun d => decide (d.When = i)) = false := fun h => by rw [List.any_append, hpre']; simp [h]
          clear hsp' hyes hno
          by_cases h : u.When = i
          · simp [hlt', hge', h, hyes' h]
          · simp [hlt', hge', h]
            refine ⟨a4', fun y hy => ?_⟩
            have h2 := hno' h
            rw [List.any_eq_false] at h2
            simpa using h2 y (by simpa using hy)
        · intro hall
          have h3 := hno hall
          simp [a4]
          intro y hy
          rw [List.any_eq_false] at h3
          have := h3 y (by simpa using hy)
          simpa using this
      · intro hallT
        have : calledB t i = false := by unfold calledB; rw [hallF, hallD, hallT]; rfl
        simp [this]
end Go.Ab

namespace Go.Ab
open Go.Proofs
set_option maxRecDepth 40000
set_option maxHeartbeats 4000000
def stC (C : List GIns) (k : Int) : Nat := C.countP fun i => decide (i.Op = 38) && decide (i.Arg = k)
def akC (C : List GIns) (k : Int) : Nat := C.countP fun i => (decide (i.Op = 24) || decide (i.Op = 25)) && decide (i.Arg = k)
def nlC (C : List GIns) : Nat := C.countP fun i => decide (i.Op = 38)
def tkC (C : List GIns) : Nat := C.countP fun i => decide (i.Op = 37)
@[simp] theorem stC_nil (k : Int) : stC [] k = 0 := rfl
@[simp] theorem akC_nil (k : Int) : akC [] k = 0 := rfl
@[simp] theorem nlC_nil : nlC [] = 0 := rfl
@[simp] theorem tkC_nil : tkC [] = 0 := rfl
structure Lab (C : List GIns) (a b : Int) : Prop where
  le : a ≤ b
  st : ∀ k, (a ≤ k ∧ k < b → stC C k = 1) ∧ (¬ (a ≤ k ∧ k < b) → stC C k = 0)
  ak : ∀ k, (a ≤ k ∧ k < b → 0 < akC C k) ∧ (¬ (a ≤ k ∧ k < b) → akC C k = 0)
  nl : (nlC C : Int) = b - a
mutual
def sizeS : GStmt → Nat
  | .mk _ _ _ _ b c => 1 + sizeSs b + sizeSs c
def sizeSs : List GStmt → Nat
  | [] => 0
  | s :: l => sizeS s + sizeSs l
end
mutual
def eachS : GStmt → Nat
  | .mk k _ _ _ b c => (if k = 11 then 1 else 0) + (eachSs b + eachSs c)
def eachSs : List GStmt → Nat
  | [] => 0
  | s :: l => eachS s + eachSs l
end
theorem sizeS_eq (s : GStmt) : sizeS s = 1 + sizeSs s.Body + sizeSs s.Else := by cases s; rw [sizeS]; rfl
theorem sizeSs_snoc (l : List GStmt) (s : GStmt) : sizeSs (l ++ [s]) = sizeSs l + sizeS s := by
  induction l with
  | nil => simp [sizeSs]
  | cons x l ih => simp only [List.cons_append, sizeSs, ih]; omega
end Go.Ab

namespace Go.Ab
end Go.Ab

namespace Go.Ab
structure OkW (t : GTables) (w : GWorld) : Prop where
  wf : w.wf
  nest : Nest w.tree w.Parent.length (kidsM w.tree)
  hC : w.Child.length = w.Parent.length
  hN : w.Next.length = w.Parent.length
  hT : w.Parent.length = t.Things.length
  hF : w.Flags.length = t.Things.length
  hP : w.Props.length = t.Things.length * t.Props.length
  hG : w.Globals.length = t.Globals.length
  hD : w.Timers.length = t.Daemons.length
  hn : 3 ≤ t.Things.length ∧ t.Things.length ≤ 128
  hp : t.Props.length ≤ 16
  g16 : ∀ x ∈ w.Globals, -32768 ≤ x ∧ x ≤ 32767
  p16 : ∀ x ∈ w.Props, -32768 ≤ x ∧ x ≤ 32767
  fl : ∀ x ∈ w.Flags, 0 ≤ x ∧ x ≤ bitsM t.Flags - 1
  tm : ∀ x ∈ w.Timers, 0 ≤ x ∧ x ≤ 32767
  sc : -32768 ≤ w.Score ∧ w.Score ≤ 32767
  tu : 0 ≤ w.Turns ∧ w.Turns ≤ 2147483647
  ov : 0 ≤ w.Over ∧ w.Over ≤ 3
  it : 0 ≤ w.It ∧ w.It < t.Things.length
  go : 0 ≤ w.Go ∧ w.Go ≤ 12
  pl : placedM t w = true
theorem fits_dims {t : GTables} (hf : fitsB t = true) : (3 ≤ t.Things.length ∧ t.Things.length ≤ 128) ∧ t.Props.length ≤ 16 ∧ t.Globals.length ≤ 64 ∧ t.Daemons.length ≤ 16 ∧ t.Texts.length ≤ 4096 ∧ t.Params.length = t.Locals.length ∧ t.Params.length ≤ 2048 ∧ t.Funcs.length ≤ 64 ∧ (4 ≤ t.Flags ∧ t.Flags ≤ 16) := by
  unfold fitsB headB thingsB rulesB at hf
  simp only [Bool.and_eq_true, decide_eq_true_eq, fromB] at hf
  omega
end Go.Ab

namespace Go.Ab
def codeX (b : GBook) (r : Int) : List GIns := if inL b.Routines r then (genB (b.Routines[r.toNat]?.getD []) 0).1 ++ [⟨1, 0⟩, ⟨27, 0⟩] else []
end Go.Ab

namespace Go.Ab
open Go.Proofs
def codeM (b : GBook) (i : Int) : List Int × Int := if i < 0 ∨ (b.Routines.length : Int) ≤ i then ([], 11) else asmM (peepM (codeX b i))
end Go.Ab

namespace Go.Ab
open Go.Proofs
def goodR (b : GBook) (i : Nat) : Bool :=
  (decide (deepB (b.Routines[i]?.getD []) 65 ≤ 32) && boundB b.Tables (b.Tables.Locals[i]?.getD 0) (b.Routines[i]?.getD [])) && (!hasKB 12 (b.Routines[i]?.getD []) || calledB b.Tables i) && (!hasKB 13 (b.Routines[i]?.getD []) || ruledB b.Tables i)
def rightBookB (b : GBook) : Bool := fitsB b.Tables && decide (b.Routines.length = b.Tables.Params.length) && (List.range b.Routines.length).all (goodR b)
theorem rightBook_ok (b : GBook) (hb : b.wf) : Pure Tryz.prog 13 [.agg (b.enc.map .d)] (boolD (rightBookB b)) := by
  have ht := GBook.wf_Tables hb
  have hlen := GBook.wl_Routines hb
  have hlenP := GTables.wl_Params ht
  have hfit := refFits_ok b.Tables ht
  obtain ⟨R, hR⟩ : ∃ R, rightBookB b = R := ⟨_, rfl⟩
  have hRd := hR
  unfold rightBookB at hRd
  rw [hR]
  cases hf : fitsB b.Tables with
  | false =>
    rw [hf] at hRd hfit
    simp at hRd
    refine Pure.run Tryz.func13 rfl (by simp [Tryz.f13]) ?_; simp [-cB, Tryz.f13]
    intro bs
    repeat' (first
      | (with_reducible refine And.intro ?_ ?_)
      | (refine condC_split (fun h => ?_) (fun h => ?_) <;> (try simp at h) <;> (try simp [-cB, *, hRd]))
      | (refine AOps.pureC rfl (hfit) rfl rfl (by simp) rfl ?_ <;> (try simp [-cB, *, hRd]))
      | (refine AOps.lendC rfl (hfit) rfl (by simp) rfl rfl (by simp) rfl ?_ <;> (try simp [-cB, *, hRd]))
      | (refine AOps.pureG rfl (fun h => hfit) rfl (by first | rfl | (simp; rfl)) (by simp) (by simp) rfl ?_ <;> (try simp [-cB, *, hRd]))
      | (with_reducible intro _))
  | true =>
    have hd := (fits_dims hf).2.2.2.2.2.1
    rw [hf] at hRd hfit
    by_cases hL : b.Routines.length = b.Tables.Params.length
    · rw [show decide (b.Routines.length = b.Tables.Params.length) = true by simpa using hL] at hRd
      simp only [Bool.true_and] at hRd
      refine Pure.run Tryz.func13 rfl (by simp [Tryz.f13]) ?_; simp [-cB, Tryz.f13]
      intro bs
      repeat' (first
        | (with_reducible refine And.intro ?_ ?_)
        | (refine condC_split (fun h => ?_) (fun h => ?_) <;> (try simp at h) <;> (try simp [-cB, *, hL, hlenP]))
        | (refine AOps.pureC rfl (hfit) rfl rfl (by simp) rfl ?_ <;> (try simp [-cB, *, hL, hlenP]))
        | (refine AOps.lendC rfl (hfit) rfl (by simp) rfl rfl (by simp) rfl ?_ <;> (try simp [-cB, *, hL, hlenP]))
        | (refine AOps.pureG rfl (fun h => hfit) rfl (by first | rfl | (simp; rfl)) (by simp) (by simp) rfl ?_ <;> (try simp [-cB, *, hL, hlenP]))
        | (with_reducible intro _))
      refine AWP.loopS [1, 3, 4] b.Routines.length (fun i => [(4, intD i)]) (fun _ => []) (fun i => ∀ j, j < i → goodR b j = true) (by rfl) (by simp) ?_
      intro i hi hH
      rcases Nat.lt_or_eq_of_le hi with hlt | heq
      · have hlt' : (i : Int) < b.Routines.length := by omega
        have h64 : inR .i64 ((i : Int) + 1) := by rw [inR_i64]; omega
        have hiL : i < b.Tables.Locals.length := by omega
        obtain ⟨l, hl⟩ : ∃ l, b.Routines[i] = l := ⟨_, rfl⟩
        obtain ⟨n, hn⟩ : ∃ n, b.Tables.Locals[i] = n := ⟨_, rfl⟩
        obtain ⟨w1, w2⟩ := GBook.wf_Routines hb l (hl ▸ List.getElem_mem hlt)
        have hnr := GTables.wf_Locals ht n (hn ▸ List.getElem_mem hiL)
        have hbd := refBoundB_ok b.Tables ht n hnr l w2 w1
        have hk12 := hasKind_ok 12 _ l (Nat.lt_succ_self _) w2 w1
        have hk13 := hasKind_ok 13 _ l (Nat.lt_succ_self _) w2 w1
        have hca := called_ok b.Tables ht i
        have hru := ruled_ok b.Tables ht i
        have hg : goodR b i = ((decide (deepB l 65 ≤ 32) && boundB b.Tables n l) && (!hasKB 12 l || calledB b.Tables i) && (!hasKB 13 l || ruledB b.Tables i)) := by
          unfold goodR
          rw [List.getElem?_eq_getElem hlt, hl, List.getElem?_eq_getElem hiL, hn]
          rfl
        generalize (decide (deepB l 65 ≤ 32) && boundB b.Tables n l) = B1 at *
        generalize hasKB 12 l = B2 at *
        generalize calledB b.Tables i = B3 at *
        generalize hasKB 13 l = B4 at *
        generalize ruledB b.Tables i = B5 at *
        have hno : goodR b i = false → R = false := fun h => by
          rw [← hRd, List.all_eq_false]
          exact ⟨i, by simpa using hlt, by simp [h]⟩
        have hyes : goodR b i = true → ∀ j, j < i + 1 → goodR b j = true := fun h j hj => by
          rcases Nat.lt_or_eq_of_le (Nat.le_of_lt_succ hj) with h1 | rfl
          · exact hH j h1
          · exact h
        rw [hg] at hno hyes
        clear hg hH hRd hR hL
        simp [-cB, hlt, hlt', hl]
        refine AWP.regionD [boolD B1, boolD B2, boolD B3, boolD B4, boolD B5] Tryz.mixed (by kernel_rfl) (by rfl) ?_
        simp [hbd.ok, hk12.ok, hca.ok, hk13.ok, hru.ok, hiL, hn]
        clear hbd hk12 hca hk13 hru hfit
        cases B1 <;> cases B2 <;> cases B3 <;> cases B4 <;> cases B5 <;> simp at hno hyes ⊢ <;> first | exact hno | exact ⟨h64, hlt, hyes⟩
      · simp [heq]
        rw [← hRd, List.all_eq_true]
        intro j hj
        exact hH j (by rw [heq]; simpa using hj)
    · rw [show decide (b.Routines.length = b.Tables.Params.length) = false by simpa using hL] at hRd
      simp at hRd
      have hL2 : ((b.Routines.length : Int) != (b.Tables.Params.length : Int)) = true := by simp; omega
      refine Pure.run Tryz.func13 rfl (by simp [Tryz.f13]) ?_; simp [-cB, Tryz.f13]
      intro bs
      repeat' (first
        | (with_reducible refine And.intro ?_ ?_)
        | (refine condC_split (fun h => ?_) (fun h => ?_) <;> (try simp at h) <;> (try simp [-cB, *, hL, hRd, hL2]))
        | (refine AOps.pureC rfl (hfit) rfl rfl (by simp) rfl ?_ <;> (try simp [-cB, *, hL, hRd, hL2]))
        | (refine AOps.lendC rfl (hfit) rfl (by simp) rfl rfl (by simp) rfl ?_ <;> (try simp [-cB, *, hL, hRd, hL2]))
        | (refine AOps.pureG rfl (fun h => hfit) rfl (by first | rfl | (simp; rfl)) (by simp) (by simp) rfl ?_ <;> (try simp [-cB, *, hL, hRd, hL2]))
        | (with_reducible intro _))
      exact absurd (by omega) hL
end Go.Ab
