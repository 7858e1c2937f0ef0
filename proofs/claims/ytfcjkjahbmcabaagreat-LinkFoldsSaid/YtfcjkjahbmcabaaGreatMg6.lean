/-
  The texts Wtr2 Wtr3 Wtr4 Wtr5 Wtr6 Wtr7 Wtr8 Wix Lpeepp Bval3 Wpp Wgrow Wpp2 Wpp3 Wpp4 Wpp5 Wpp6 Wpp7 Vdec Vdec2 Wop Lasmp Wasm1 Wasm2 Wlay Wasm3 Sl Wasm4, one behind the other.
-/
import Derived.Test.YtfcjkjahbmcabaaGreatMg5
import Derived.Lib.AppendZeros
import Derived.Scope
set_option linter.unusedSimpArgs false
set_option linter.unusedVariables false
namespace Go.Ab
open Go.Proofs
set_option maxHeartbeats 4000000
set_option maxRecDepth 20000
def HasS.enc (h : HasS) : List D := [.v (.bool h.named), .v (.bool h.body), .v (.bool h.other), .v (.int .i64 h.least), .v (.int .i64 h.most)]
def hasSV (o : Option HasS) : HasS := o.getD ⟨false, false, false, 0, 0⟩
theorem tStmtHas_ok (k : Int) : Pure Tryz.prog 189 [.d (.v (.int .i64 k))] (.tup [.agg ((hasSV (hasS k)).enc.map .d), .d (.v (.bool (hasS k).isSome))]) := by
  unfold hasS hasSV
  refine Pure.run Tryz.func189 rfl (by simp [Tryz.f189]) ?_; simp [-cB, Tryz.f189]
  repeat' (first
    | (with_reducible refine And.intro ?_ ?_)
    | (refine condC_split (fun h => ?_) (fun h => ?_) <;> (try simp at h) <;> (try simp [-cB, *]))
    | (with_reducible intro _))
  all_goals first | (simp [HasS.enc, *]; done) | skip
theorem tNumbered_ok (t : GTables) (s : GStmt) (hs : s.wf) (locals : Int) (hl : locals ≤ 9223372036854775807) : Pure Tryz.prog 103 [.agg (t.enc.map .d), .agg (s.enc.map .d), .d (.v (.int .i64 locals))] (.d (.v (.bool (numberedS t s locals)))) := by
  have hn := GStmt.wf_Num hs
  rw [inR_i64] at hn
  have h64 : belowE s.Num locals = true → inR .i64 (s.Num + 1) := fun h => by unfold belowE at h; simp at h; rw [inR_i64]; omega
  have hq1 := tBelow_ok s.Num locals
  have hq2 := tBelow_ok (s.Num + 1) locals
  have hq3 := tBelow_ok s.Num
  unfold numberedS
  generalize belowE s.Num locals = b1 at *
  generalize belowE (s.Num + 1) locals = b2 at *
  refine Pure.run Tryz.func103 rfl (by simp [Tryz.f103]) ?_; simp [-cB, Tryz.f103]
  repeat' (first
    | (with_reducible refine And.intro ?_ ?_)
    | (refine condC_split (fun h => ?_) (fun h => ?_) <;> (try simp at h) <;> (try simp [-cB, *]))
    | (refine AOps.pureC rfl (hq1) rfl rfl (by simp) rfl ?_ <;> (try simp [-cB, *]))
    | (refine AOps.pureC rfl (hq2) rfl rfl (by simp) rfl ?_ <;> (try simp [-cB, *]))
    | (refine AOps.pureC rfl (hq3 _) rfl rfl (by simp) rfl ?_ <;> (try simp [-cB, *]))
    | (refine AOps.lendC rfl (hq1) rfl (by simp) rfl rfl (by simp) rfl ?_ <;> (try simp [-cB, *]))
    | (refine AOps.lendC rfl (hq2) rfl (by simp) rfl rfl (by simp) rfl ?_ <;> (try simp [-cB, *]))
    | (refine AOps.lendC rfl (hq3 _) rfl (by simp) rfl rfl (by simp) rfl ?_ <;> (try simp [-cB, *]))
    | (refine AOps.pureG rfl (fun h => hq1) rfl (by first | rfl | (simp; rfl)) (by simp) (by simp) rfl ?_ <;> (try simp [-cB, *]))
    | (refine AOps.pureG rfl (fun h => hq2) rfl (by first | rfl | (simp; rfl)) (by simp) (by simp) rfl ?_ <;> (try simp [-cB, *]))
    | (refine AOps.pureG rfl (fun h => hq3 _) rfl (by first | rfl | (simp; rfl)) (by simp) (by simp) rfl ?_ <;> (try simp [-cB, *]))
    | (with_reducible intro _))
  all_goals first | (simp_all; done) | skip
theorem deepE_bd : ∀ (m : Nat) (e : GExpr), 1 ≤ deepE m e ∧ deepE m e ≤ m + 1
  | 0, e => by simp [deepE]
  | m + 1, e => by
    have key : ∀ (l : List GExpr) (n : Int), 1 ≤ n → n ≤ m + 2 → 1 ≤ l.foldl (fun d x => max d (1 + deepE m x)) n ∧ l.foldl (fun d x => max d (1 + deepE m x)) n ≤ m + 2 := by
      intro l
      induction l with
      | nil => intro n h1 h2; exact ⟨h1, h2⟩
      | cons x l ih =>
        intro n h1 h2
        have := deepE_bd m x
        simp only [List.foldl_cons]
        exact ih _ (by omega) (by omega)
    have := key e.Args 1 (by omega) (by omega)
    rw [deepE]; omega
theorem tDeep_ok : ∀ (m : Nat) (hm : m ≤ 64) (e : GExpr) (he : e.wf), Pure Tryz.prog 188 [.agg (e.enc.map .d), .d (.v (.int .i64 m))] (.d (.v (.int .i64 (deepE m e))))
  | 0, hm, e, he => by
    have hw := (GExpr.wf_iff e).1 he
    refine Pure.run Tryz.func188 rfl (by simp [Tryz.f188]) ?_; simp [-cB, Tryz.f188]
    intro bs
    refine AWP.loopS [1, 2, 5, 6] 0 (fun i => []) (fun _ => []) (fun _ => True) (by rfl) (by simp) ?_
    intro i hi _
    obtain rfl : i = 0 := by omega
    repeat' (first
      | (with_reducible refine And.intro ?_ ?_)
      | (refine condC_split (fun h => ?_) (fun h => ?_) <;> (try simp at h) <;> (try simp [-cB, *]))
      | (with_reducible intro _))
    all_goals simp [deepE]
  | m + 1, hm, e, he => by
    have hw := (GExpr.wf_iff e).1 he
    have hlen : e.Args.length ≤ 2199023255488 := by omega
    have hsub : ∀ x ∈ e.Args, Pure Tryz.prog 188 [.agg (x.enc.map .d), .d (.v (.int .i64 m))] (.d (.v (.int .i64 (deepE m x)))) := fun x hx => tDeep_ok m (by omega) x (hw.2.2.2.2.2 _ hx)
    have hbd := deepE_bd m
    have hbd2 := deepE_bd (m + 1)
    rw [deepE]
    have hm64 : inR .i64 (m : Int) := by rw [inR_i64]; omega
    have em : ((m : Int) + 1) - 1 = m := by omega
    have hpos : (0 : Int) < (m : Int) + 1 := by omega
    refine Pure.run Tryz.func188 rfl (by simp [Tryz.f188]) ?_; simp [-cB, Tryz.f188]
    intro bs
    refine AWP.loopL [1, 2, 5, 6] e.Args (fun pre => [(5, .d (.v (.int .i64 (pre.foldl (fun d x => max d (1 + deepE m x)) 1)))), (6, .d (.v (.int .i64 pre.length)))]) (fun _ => []) (fun pre => pre.foldl (fun d x => max d (1 + deepE m x)) 1 ≤ m + 2 ∧ 1 ≤ pre.foldl (fun d x => max d (1 + deepE m x)) 1) (by rfl) (by omega) (by simp; omega) ?_ ?_
    · rintro pre x post hsp hH hlt hge a4
      have h3 := hsub x (by rw [hsp]; simp)
      have hb := hbd x
      have hsn : (pre ++ [x]).foldl (fun d x => max d (1 + deepE m x)) 1 = max (pre.foldl (fun d x => max d (1 + deepE m x)) 1) (1 + deepE m x) := by simp
      generalize pre.foldl (fun d x => max d (1 + deepE m x)) 1 = k at *
      generalize deepE m x = q at *
      have h64 : inR .i64 (1 + q) := by rw [inR_i64]; omega
      clear hsp hsub hbd hbd2 hw
      simp [-cB, *]
      repeat' (first
        | (with_reducible refine And.intro ?_ ?_)
        | (refine condC_split (fun h => ?_) (fun h => ?_) <;> (try simp at h) <;> (try simp [-cB, *]))
        | (refine AOps.pureC rfl (h3) rfl rfl (by simp) rfl ?_ <;> (try simp [-cB, *]))
        | (refine AOps.lendC rfl (h3) rfl (by simp) rfl rfl (by simp) rfl ?_ <;> (try simp [-cB, *]))
        | (refine AOps.pureG rfl (fun h => h3) rfl (by first | rfl | (simp; rfl)) (by simp) (by simp) rfl ?_ <;> (try simp [-cB, *]))
        | (with_reducible intro _))
      all_goals first | (simp_all; done) | omega | skip
    · intro hH
      clear hsub hbd hbd2
      simp [-cB, *]
end Go.Ab

namespace Go.Ab
open Go.Proofs
set_option maxHeartbeats 4000000
set_option maxRecDepth 20000
theorem tShaped_ok (e : GExpr) (he : e.wf) : Pure Tryz.prog 139 [.agg (e.enc.map .d)] (.d (.v (.bool (shapedE e)))) := by
  have hw := (GExpr.wf_iff e).1 he
  have hq1 := tHas_ok e.Kind
  have hq2 := tOp_ok e
  have hE : shapedE e = ((hasE e.Kind).isSome && (((hasV (hasE e.Kind)).op || decide (e.Op = 0)) && ((hasV (hasE e.Kind)).num || decide (e.Num = 0)) && ((hasV (hasE e.Kind)).name || e.Name.toList.isEmpty)) && decide ((hasV (hasE e.Kind)).least ≤ e.Args.length) && decide ((e.Args.length : Int) ≤ (hasV (hasE e.Kind)).most) && opE e) := by
    unfold shapedE hasV
    cases hasE e.Kind with
    | none => rfl
    | some h => simp [Bool.and_assoc]
  rw [hE]
  generalize opE e = b at *
  generalize (hasE e.Kind).isSome = s at *
  generalize hasV (hasE e.Kind) = h at *
  obtain ⟨h1, h2, h3, h4, h5⟩ := h
  unfold HasE.enc at hq1
  clear hE
  refine Pure.run Tryz.func139 rfl (by simp [Tryz.f139]) ?_; simp [-cB, Tryz.f139]
  repeat' (first
    | (with_reducible refine And.intro ?_ ?_)
    | (refine condC_split (fun h => ?_) (fun h => ?_) <;> (try simp at h) <;> (try simp [-cB, *, eqVs, vals, eqVals, eqV1, fitVs, fits, fit1, bytes_beq]))
    | (refine AOps.pureC rfl (hq1) rfl rfl (by simp) rfl ?_ <;> (try simp [-cB, *, eqVs, vals, eqVals, eqV1, fitVs, fits, fit1, bytes_beq]))
    | (refine AOps.pureC rfl (hq2) rfl rfl (by simp) rfl ?_ <;> (try simp [-cB, *, eqVs, vals, eqVals, eqV1, fitVs, fits, fit1, bytes_beq]))
    | (refine AOps.lendC rfl (hq1) rfl (by simp) rfl rfl (by simp) rfl ?_ <;> (try simp [-cB, *, eqVs, vals, eqVals, eqV1, fitVs, fits, fit1, bytes_beq]))
    | (refine AOps.lendC rfl (hq2) rfl (by simp) rfl rfl (by simp) rfl ?_ <;> (try simp [-cB, *, eqVs, vals, eqVals, eqV1, fitVs, fits, fit1, bytes_beq]))
    | (refine AOps.pureG rfl (fun h => hq1) rfl (by first | rfl | (simp; rfl)) (by simp) (by simp) rfl ?_ <;> (try simp [-cB, *, eqVs, vals, eqVals, eqV1, fitVs, fits, fit1, bytes_beq]))
    | (refine AOps.pureG rfl (fun h => hq2) rfl (by first | rfl | (simp; rfl)) (by simp) (by simp) rfl ?_ <;> (try simp [-cB, *, eqVs, vals, eqVals, eqV1, fitVs, fits, fit1, bytes_beq]))
    | (with_reducible intro _))
  all_goals first | (simp_all; done) | grind | skip
end Go.Ab

namespace Go.Ab
open Go.Proofs
set_option maxHeartbeats 4000000
set_option maxRecDepth 20000
theorem fold_bd {α : Type} (f : Int → α → Int) (M : Int) (l : List α) (h : ∀ x ∈ l, ∀ n, 0 ≤ n → n ≤ M → 0 ≤ f n x ∧ f n x ≤ M) : ∀ n, 0 ≤ n → n ≤ M → 0 ≤ l.foldl f n ∧ l.foldl f n ≤ M := by
  induction l with
  | nil => intro n h1 h2; exact ⟨h1, h2⟩
  | cons x l ih =>
    intro n h1 h2
    have := h x (by simp) n h1 h2
    exact ih (fun y hy => h y (by simp [hy])) _ this.1 this.2
theorem deepEs_bd (m : Nat) (l : List GExpr) (n : Int) (h1 : 0 ≤ n) (h2 : n ≤ m + 2) : 0 ≤ l.foldl (fun d x => max d (1 + deepE m x)) n ∧ l.foldl (fun d x => max d (1 + deepE m x)) n ≤ m + 2 :=
  fold_bd _ (m + 2) l (fun x _ n h1 h2 => by have := deepE_bd m x; omega) n h1 h2
theorem deepBE_bd : ∀ (m : Nat) (l : List GStmt), 0 ≤ deepBE m l ∧ deepBE m l ≤ m + 1
  | 0, l => by rw [deepBE]; omega
  | m + 1, l => by
    rw [deepBE]
    have := fold_bd (fun d (s : GStmt) => max (max (s.Args.foldl (fun d x => max d (1 + deepE m x)) d) (1 + deepBE m s.Body)) (1 + deepBE m s.Else)) (m + 2) l (fun s _ n h1 h2 => by
      have a := deepEs_bd m s.Args n h1 h2
      have b := deepBE_bd m s.Body
      have c := deepBE_bd m s.Else
      omega) (min l.length 1) (by omega) (by omega)
    omega
theorem tDeepB_ok : ∀ (m : Nat) (hm : m ≤ 64) (l : List GStmt) (hl : ∀ s ∈ l, s.wf) (hlen : l.length * 104 ≤ 140737488351232), Pure Tryz.prog 144 [.d (.sl (l.map GStmt.enc)), .d (.v (.int .i64 m))] (.d (.v (.int .i64 (deepBE m l))))
  | 0, hm, l, hl, hlen => by
    refine Pure.run Tryz.func144 rfl (by simp [Tryz.f144]) ?_; simp [-cB, Tryz.f144]
    refine AWP.loopS [0, 1, 5, 6] 0 (fun i => []) (fun _ => []) (fun _ => True) (by rfl) (by simp) ?_
    intro i hi _
    obtain rfl : i = 0 := by omega
    repeat' (first
      | (with_reducible refine And.intro ?_ ?_)
      | (refine condC_split (fun h => ?_) (fun h => ?_) <;> (try simp at h) <;> (try simp [-cB, *]))
      | (with_reducible intro _))
    all_goals (simp [deepBE]; try omega)
  | m + 1, hm, l, hl, hlen => by
    have hbd := deepBE_bd (m + 1) l
    have hm64 : inR .i64 (m : Int) := by rw [inR_i64]; omega
    have em : ((m : Int) + 1) - 1 = m := by omega
    have hpos : (0 : Int) < (m : Int) + 1 := by omega
    rw [deepBE] at hbd ⊢
    have hsub : ∀ s ∈ l, s.wf ∧ Pure Tryz.prog 144 [.d (.sl (s.Body.map GStmt.enc)), .d (.v (.int .i64 m))] (.d (.v (.int .i64 (deepBE m s.Body)))) ∧ Pure Tryz.prog 144 [.d (.sl (s.Else.map GStmt.enc)), .d (.v (.int .i64 m))] (.d (.v (.int .i64 (deepBE m s.Else)))) := fun s hs =>
      ⟨hl s hs, tDeepB_ok m (by omega) s.Body (GStmt.wf_Body (hl s hs)) (GStmt.wl_Body (hl s hs)), tDeepB_ok m (by omega) s.Else (GStmt.wf_Else (hl s hs)) (GStmt.wl_Else (hl s hs))⟩
    generalize hF : (fun d (s : GStmt) => max (max (s.Args.foldl (fun d x => max d (1 + deepE m x)) d) (1 + deepBE m s.Body)) (1 + deepBE m s.Else)) = F at *
    refine Pure.run Tryz.func144 rfl (by simp [Tryz.f144]) ?_; simp [-cB, Tryz.f144]
    refine AWP.loopL [0, 1, 5, 6] l (fun pre => [(5, .d (.v (.int .i64 (pre.foldl F (min l.length 1))))), (6, .d (.v (.int .i64 pre.length)))]) (fun _ => []) (fun pre => 0 ≤ pre.foldl F (min l.length 1) ∧ pre.foldl F (min l.length 1) ≤ m + 2) (by rfl) (by omega) (by simp; omega) ?_ ?_
    · rintro pre s post hsp hH hlt hge a4
      obtain ⟨hws, h1, h2⟩ := hsub s (by rw [hsp]; simp)
      have hwa := GStmt.wl_Args hws
      have hsn : (pre ++ [s]).foldl F (min l.length 1) = F (pre.foldl F (min l.length 1)) s := by simp
      rw [← hF] at hsn
      dsimp only at hsn
      rw [hF] at hsn
      generalize pre.foldl F (min l.length 1) = v at *
      have hE := fun pre : List GExpr => deepEs_bd m pre v hH.1 hH.2
      have b1 := deepBE_bd m s.Body
      have b2 := deepBE_bd m s.Else
      clear hsp hsub hbd
      simp [-cB, *]
      refine AWP.loopL [0, 1, 5, 6, 26, 27, 28] s.Args (fun pre => [(5, .d (.v (.int .i64 (pre.foldl (fun d x => max d (1 + deepE m x)) v)))), (28, .d (.v (.int .i64 pre.length)))]) (fun _ => []) (fun _ => True) (by rfl) (by omega) (by simp) ?_ ?_
      · rintro pre' e post' hsp2 - hlt2 hge2 b4
        have hwe := GStmt.wf_Args hws e (by rw [hsp2]; simp)
        have h3 := tDeep_ok m (by omega) e hwe
        have hb := deepE_bd m e
        have hsn2 : (pre' ++ [e]).foldl (fun d x => max d (1 + deepE m x)) v = max (pre'.foldl (fun d x => max d (1 + deepE m x)) v) (1 + deepE m e) := by simp
        have a1 : inR .i64 (1 + deepE m e) := by rw [inR_i64]; omega
        clear hsp2
        generalize pre'.foldl (fun d x => max d (1 + deepE m x)) v = k at *
        generalize deepE m e = q at *
        simp [-cB, *]
        repeat' (first
          | (with_reducible refine And.intro ?_ ?_)
          | (refine condC_split (fun h => ?_) (fun h => ?_) <;> (try simp at h) <;> (try simp [-cB, *]))
          | (refine AOps.pureC rfl (h3) rfl rfl (by simp) rfl ?_ <;> (try simp [-cB, *]))
          | (refine AOps.lendC rfl (h3) rfl (by simp) rfl rfl (by simp) rfl ?_ <;> (try simp [-cB, *]))
          | (refine AOps.pureG rfl (fun h => h3) rfl (by first | rfl | (simp; rfl)) (by simp) (by simp) rfl ?_ <;> (try simp [-cB, *]))
          | (with_reducible intro _))
        all_goals first | (simp_all; done) | omega | skip
      · intro _
        have c1 := h1.ok
        have c2 := h2.ok
        have a1 : inR .i64 (1 + deepBE m s.Body) := by rw [inR_i64]; omega
        have a2 : inR .i64 (1 + deepBE m s.Else) := by rw [inR_i64]; omega
        have b3 := hE s.Args
        generalize s.Args.foldl (fun d x => max d (1 + deepE m x)) v = k at *
        simp [-cB, *]
        refine AWP.regionD [.d (.v (.int .i64 (deepBE m s.Body))), .d (.v (.int .i64 (deepBE m s.Else)))] Tryz.mixed (by kernel_rfl) (by rfl) ?_
        simp [*]
        all_goals first | (simp_all; done) | omega | skip
    · intro hH
      clear hsub
      simp [-cB, *]
theorem tDepthB_ok (l : List GStmt) (hl : ∀ s ∈ l, s.wf) (hlen : l.length * 104 ≤ 140737488351232) : Pure Tryz.prog 104 [.d (.sl (l.map GStmt.enc))] (.d (.v (.int .i64 (deepBE 64 l)))) := by
  have hq := tDeepB_ok 64 (by omega) l hl hlen
  refine Pure.run Tryz.func104 rfl (by simp [Tryz.f104]) ?_; simp [-cB, Tryz.f104]
  repeat' (first
    | (with_reducible refine And.intro ?_ ?_)
    | (refine condC_split (fun h => ?_) (fun h => ?_) <;> (try simp at h) <;> (try simp [-cB, *]))
    | (refine AOps.pureC rfl (hq) rfl rfl (by simp) rfl ?_ <;> (try simp [-cB, *]))
    | (refine AOps.lendC rfl (hq) rfl (by simp) rfl rfl (by simp) rfl ?_ <;> (try simp [-cB, *]))
    | (refine AOps.pureG rfl (fun h => hq) rfl (by first | rfl | (simp; rfl)) (by simp) (by simp) rfl ?_ <;> (try simp [-cB, *]))
    | (with_reducible intro _))
end Go.Ab

namespace Go.Ab
open Go.Proofs
set_option maxHeartbeats 4000000
set_option maxRecDepth 20000
theorem tEach_ok (l : List GExpr) (hl : l.length ≤ 1000000000000000) (g : Nat) (caps : List V) (hc : V.ons [] caps = true) (p : GExpr → Bool) (h : ∀ x ∈ l, Pure Tryz.prog g (.agg (x.enc.map .d) :: caps) (.d (.v (.bool (p x))))) :
    Pure Tryz.prog 141 [.d (.sl (l.map GExpr.enc)), .clo (.func g) [] caps] (.d (.v (.bool (allB p l)))) := by
  refine Pure.run Tryz.func141 rfl (by simp [Tryz.f141, hc]) ?_; simp [-cB, Tryz.f141, hc]
  refine AWP.loopL [1, 7, 8, 9] l (fun pre => [(9, .d (.v (.int .i64 pre.length)))]) (fun _ => []) (fun pre => allB p pre = true) (by rfl) (by omega) (by simp [allB_nil, hc]) ?_ ?_
  · rintro pre x post hsp hH hlt hge a4
    have hall := allB_split hsp hH
    have hsn : allB p (pre ++ [x]) = p x := by simp [allB_snoc, hH]
    have h3 := h x (by rw [hsp]; simp)
    clear hsp h
    simp [-cB, *]
    repeat' (first
      | (with_reducible refine And.intro ?_ ?_)
      | (refine condC_split (fun h => ?_) (fun h => ?_) <;> (try simp at h) <;> (try simp [-cB, *]))
      | (refine AOps.pureC rfl (h3) rfl rfl (by simp) rfl ?_ <;> (try simp [-cB, *]))
      | (refine AOps.lendC rfl (h3) rfl (by simp) rfl rfl (by simp) rfl ?_ <;> (try simp [-cB, *]))
      | (refine AOps.pureG rfl (fun h => h3) rfl (by first | rfl | (simp; rfl)) (by simp) (by simp) rfl ?_ <;> (try simp [-cB, *]))
      | (with_reducible intro _))
    all_goals (first | assumption | omega | (rw [inR_i64]; omega) | (simp_all; done) | grind | skip)
  · intro hH
    simp [*]
theorem tBook1_ok (t : GTables) (locals : Int) (x : GExpr) (b : Bool) (hq : Pure Tryz.prog 101 [.agg (t.enc.map .d), .agg (x.enc.map .d), .d (.v (.int .i64 locals))] (.d (.v (.bool b)))) :
    Pure Tryz.prog 142 [.agg (x.enc.map .d), .rp t.enc, .rp [.v (.int .i64 locals)]] (.d (.v (.bool (!saidE x.Kind && b)))) := by
  have hs := tSaid_ok x.Kind
  generalize saidE x.Kind = s at *
  refine Pure.run Tryz.func142 rfl (by simp [Tryz.f142]) ?_; simp [-cB, Tryz.f142]
  repeat' (first
    | (with_reducible refine And.intro ?_ ?_)
    | (refine condC_split (fun h => ?_) (fun h => ?_) <;> (try simp at h) <;> (try simp [-cB, *]))
    | (refine AOps.pureC rfl (hs) rfl rfl (by simp) rfl ?_ <;> (try simp [-cB, *]))
    | (refine AOps.pureC rfl (hq) rfl rfl (by simp) rfl ?_ <;> (try simp [-cB, *]))
    | (refine AOps.lendC rfl (hs) rfl (by simp) rfl rfl (by simp) rfl ?_ <;> (try simp [-cB, *]))
    | (refine AOps.lendC rfl (hq) rfl (by simp) rfl rfl (by simp) rfl ?_ <;> (try simp [-cB, *]))
    | (refine AOps.pureG rfl (fun h => hs) rfl (by first | rfl | (simp; rfl)) (by simp) (by simp) rfl ?_ <;> (try simp [-cB, *]))
    | (refine AOps.pureG rfl (fun h => hq) rfl (by first | rfl | (simp; rfl)) (by simp) (by simp) rfl ?_ <;> (try simp [-cB, *]))
    | (with_reducible intro _))
  all_goals (first | assumption | omega | (rw [inR_i64]; omega) | (simp_all; done) | grind | skip)
theorem tBook_ok (t : GTables) (ht : t.wf) (locals : Int) : ∀ (N : Nat) (e : GExpr), SizeOf.sizeOf e < N → e.wf → Pure Tryz.prog 101 [.agg (t.enc.map .d), .agg (e.enc.map .d), .d (.v (.int .i64 locals))] (.d (.v (.bool (bookE t locals e))))
  | 0, e, h, _ => by omega
  | N + 1, e, h, he => by
    have hw := (GExpr.wf_iff e).1 he
    have hsub : ∀ x ∈ e.Args, Pure Tryz.prog 142 [.agg (x.enc.map .d), .rp t.enc, .rp [.v (.int .i64 locals)]] (.d (.v (.bool (!saidE x.Kind && bookE t locals x)))) := fun x hx =>
      tBook1_ok t locals x _ (tBook_ok t ht locals N x (by have := GExpr.lt_of_mem hx; omega) (hw.2.2.2.2.2 _ hx))
    have hq1 := tEach_ok e.Args (by omega) 142 [.rp t.enc, .rp [.v (.int .i64 locals)]] rfl _ hsub
    have hq2 := tShaped_ok e he
    have hE : bookE t locals e = (shapedE e && okE t e locals && allB (fun x => !saidE x.Kind && bookE t locals x) e.Args) := by rw [bookE_eq, booksE_all]; rfl
    rw [hE]
    generalize allB (fun x => !saidE x.Kind && bookE t locals x) e.Args = bA at *
    generalize shapedE e = bS at *
    have hfi : ∀ f : Nat, f < t.Funcs.length → t.Funcs[f]? = some (t.Funcs[f]?.getD 0) := fun f hf => by rw [List.getElem?_eq_getElem hf]; rfl
    have hq3 : Pure Tryz.prog 86 [.d (.v (.int .i64 e.Num))] (.d (.v (.bool (isM e.Num)))) := wIs_ok e.Num
    clear hE hsub
    unfold okE
    refine Pure.run Tryz.func101 rfl (by simp [Tryz.f101]) ?_; simp [-cB, Tryz.f101]
    intro bs
    refine AOps.weaken (Wk.freezeB 3 (ds := t.enc) rfl) ?_
    simp [-cB]
    refine AOps.weaken (Wk.freezeB 5 (ds := [.v (.int .i64 locals)]) rfl) ?_
    simp [-cB]
    repeat' (first
      | (with_reducible refine And.intro ?_ ?_)
      | (refine condC_split (fun h => ?_) (fun h => ?_) <;> (try simp at h) <;> (try simp [-cB, *]))
      | (refine AOps.pureC rfl (hq1) rfl rfl (by simp) rfl ?_ <;> (try simp [-cB, *]))
      | (refine AOps.pureC rfl (hq2) rfl rfl (by simp) rfl ?_ <;> (try simp [-cB, *]))
      | (refine AOps.pureC rfl (tBelow_ok _ _) rfl rfl (by simp) rfl ?_ <;> (try simp [-cB, *]))
      | (refine AOps.pureC rfl (hq3) rfl rfl (by simp) rfl ?_ <;> (try simp [-cB, *]))
      | (refine AOps.lendC rfl (hq1) rfl (by simp) rfl rfl (by simp) rfl ?_ <;> (try simp [-cB, *]))
      | (refine AOps.lendC rfl (hq2) rfl (by simp) rfl rfl (by simp) rfl ?_ <;> (try simp [-cB, *]))
      | (refine AOps.lendC rfl (tBelow_ok _ _) rfl (by simp) rfl rfl (by simp) rfl ?_ <;> (try simp [-cB, *]))
      | (refine AOps.lendC rfl (hq3) rfl (by simp) rfl rfl (by simp) rfl ?_ <;> (try simp [-cB, *]))
      | (refine AOps.pureG rfl (fun h => hq1) rfl (by first | rfl | (simp; rfl)) (by simp) (by simp) rfl ?_ <;> (try simp [-cB, *]))
      | (refine AOps.pureG rfl (fun h => hq2) rfl (by first | rfl | (simp; rfl)) (by simp) (by simp) rfl ?_ <;> (try simp [-cB, *]))
      | (refine AOps.pureG rfl (fun h => tBelow_ok _ _) rfl (by first | rfl | (simp; rfl)) (by simp) (by simp) rfl ?_ <;> (try simp [-cB, *]))
      | (refine AOps.pureG rfl (fun h => hq3) rfl (by first | rfl | (simp; rfl)) (by simp) (by simp) rfl ?_ <;> (try simp [-cB, *]))
      | (with_reducible intro _))
    all_goals first | (simp_all; done) | grind | skip
    rename_i h18
    have hP : ∀ n : Int, 0 ≤ n → n < t.Params.length → t.Params[n.toNat]? = some (t.Params[n.toNat]?.getD 0) := fun n h1 h2 => by rw [List.getElem?_eq_getElem (by omega)]; rfl
    have k1 : ∀ L, OKCall Tryz.prog 140 [.d (.v (.int .i64 e.Num)), .d (.v (.int .i64 t.Funcs.length))] L (.d (.v (.bool (belowE e.Num t.Funcs.length)))) := (tBelow_ok _ _).ok
    cases hc1 : belowE e.Num t.Funcs.length with
    | false =>
      rw [hc1] at k1
      refine AWP.regionD [.d (.v (.bool false)), .d (.v (.bool false))] Tryz.mixed (by kernel_rfl) (by rfl) ?_
      simp [-cB, *]
      repeat' (first
        | (with_reducible refine And.intro ?_ ?_)
        | (refine condC_split (fun h => ?_) (fun h => ?_) <;> (try simp at h) <;> (try simp [-cB, *]))
        | (refine AOps.pureC rfl (hq1) rfl rfl (by simp) rfl ?_ <;> (try simp [-cB, *]))
        | (refine AOps.lendC rfl (hq1) rfl (by simp) rfl rfl (by simp) rfl ?_ <;> (try simp [-cB, *]))
        | (refine AOps.pureG rfl (fun h => hq1) rfl (by first | rfl | (simp; rfl)) (by simp) (by simp) rfl ?_ <;> (try simp [-cB, *]))
        | (with_reducible intro _))
      all_goals first | (simp_all; done) | grind | skip
    | true =>
      rw [hc1] at k1
      have hb : 0 ≤ e.Num ∧ e.Num < t.Funcs.length := by unfold belowE at hc1; simpa using hc1
      have hf := hfi e.Num.toNat (by omega)
      generalize t.Funcs[e.Num.toNat]?.getD 0 = fn at *
      have k2 : ∀ L, OKCall Tryz.prog 140 [.d (.v (.int .i64 fn)), .d (.v (.int .i64 t.Params.length))] L (.d (.v (.bool (belowE fn t.Params.length)))) := (tBelow_ok _ _).ok
      cases hc2 : belowE fn t.Params.length with
      | false =>
        rw [hc2] at k2
        refine AWP.regionD [.d (.v (.bool true)), .d (.v (.bool false))] Tryz.mixed (by kernel_rfl) (by rfl) ?_
        simp [-cB, *]
        repeat' (first
          | (with_reducible refine And.intro ?_ ?_)
          | (refine condC_split (fun h => ?_) (fun h => ?_) <;> (try simp at h) <;> (try simp [-cB, *]))
          | (refine AOps.pureC rfl (hq1) rfl rfl (by simp) rfl ?_ <;> (try simp [-cB, *]))
          | (refine AOps.lendC rfl (hq1) rfl (by simp) rfl rfl (by simp) rfl ?_ <;> (try simp [-cB, *]))
          | (refine AOps.pureG rfl (fun h => hq1) rfl (by first | rfl | (simp; rfl)) (by simp) (by simp) rfl ?_ <;> (try simp [-cB, *]))
          | (with_reducible intro _))
        all_goals first | (simp_all; done) | grind | skip
      | true =>
        rw [hc2] at k2
        have hb2 : 0 ≤ fn ∧ fn < t.Params.length := by unfold belowE at hc2; simpa using hc2
        have hp := hP fn hb2.1 hb2.2
        generalize t.Params[fn.toNat]?.getD 0 = pn at *
        refine AWP.regionD [.d (.v (.bool true)), .d (.v (.bool true))] Tryz.mixed (by kernel_rfl) (by rfl) ?_
        simp [-cB, *]
        repeat' (first
          | (with_reducible refine And.intro ?_ ?_)
          | (refine condC_split (fun h => ?_) (fun h => ?_) <;> (try simp at h) <;> (try simp [-cB, *]))
          | (refine AOps.pureC rfl (hq1) rfl rfl (by simp) rfl ?_ <;> (try simp [-cB, *]))
          | (refine AOps.lendC rfl (hq1) rfl (by simp) rfl rfl (by simp) rfl ?_ <;> (try simp [-cB, *]))
          | (refine AOps.pureG rfl (fun h => hq1) rfl (by first | rfl | (simp; rfl)) (by simp) (by simp) rfl ?_ <;> (try simp [-cB, *]))
          | (with_reducible intro _))
        all_goals first | (simp_all; done) | grind | skip
end Go.Ab

namespace Go.Ab
open Go.Proofs
set_option maxHeartbeats 4000000
set_option maxRecDepth 20000
def capT (t : GTables) (locals : Int) : List V := [.rp t.enc, .rp [.v (.int .i64 locals)]]
def rulesL (t : GTables) (locals : Int) : List V := [.clo (.func 102) [] (capT t locals), .clo (.func 100) [] (capT t locals), .d (.v (.int .i64 18))]
@[simp] theorem rulesL_ons (t : GTables) (locals : Int) (g : List Nat) : V.ons g (rulesL t locals) = true := by simp [rulesL, capT]
@[simp] theorem rulesL_len (t : GTables) (locals : Int) : (rulesL t locals).length = 3 := rfl
def rulH (b : Nat) (t : GTables) (locals : Int) : Heap := [(5501, .box (b + 1) 134 (rulesL t locals))]
theorem tB1_ok (t : GTables) (ht : t.wf) (locals : Int) (x : GExpr) (hx : x.wf) : Pure Tryz.prog 100 (.agg (x.enc.map .d) :: capT t locals) (.d (.v (.bool (bookE t locals x)))) := by
  have hq := tBook_ok t ht locals _ x (Nat.lt_succ_self _) hx
  have he : (t.enc.take 15).length = 15 := rfl
  unfold capT
  generalize bookE t locals x = b at *
  refine Pure.run Tryz.func100 rfl (by simp [Tryz.f100]) ?_; simp [-cB, Tryz.f100]
  repeat' (first
    | (with_reducible refine And.intro ?_ ?_)
    | (refine condC_split (fun h => ?_) (fun h => ?_) <;> (try simp at h) <;> (try simp [-cB, *]))
    | (refine AOps.pureC rfl (hq) rfl rfl (by simp) rfl ?_ <;> (try simp [-cB, *]))
    | (refine AOps.lendC rfl (hq) rfl (by simp) rfl rfl (by simp) rfl ?_ <;> (try simp [-cB, *]))
    | (refine AOps.pureG rfl (fun h => hq) rfl (by first | rfl | (simp; rfl)) (by simp) (by simp) rfl ?_ <;> (try simp [-cB, *]))
    | (with_reducible intro _))
theorem tB2_ok (t : GTables) (locals : Int) (s : GStmt) (hs : s.wf) (named : Bool) (hl : locals ≤ 9223372036854775807) : Pure Tryz.prog 102 (.agg (s.enc.map .d) :: .d (.v (.bool named)) :: capT t locals) (.d (.v (.bool (nameS t s locals named)))) := by
  have hq := tNumbered_ok t s hs locals hl
  have he : (t.enc.take 15).length = 15 := rfl
  unfold capT nameS
  generalize numberedS t s locals = b at *
  refine Pure.run Tryz.func102 rfl (by simp [Tryz.f102]) ?_; simp [-cB, Tryz.f102]
  repeat' (first
    | (with_reducible refine And.intro ?_ ?_)
    | (refine condC_split (fun h => ?_) (fun h => ?_) <;> (try simp at h) <;> (try simp [-cB, *, bytes_beq]))
    | (refine AOps.pureC rfl (hq) rfl rfl (by simp) rfl ?_ <;> (try simp [-cB, *, bytes_beq]))
    | (refine AOps.lendC rfl (hq) rfl (by simp) rfl rfl (by simp) rfl ?_ <;> (try simp [-cB, *, bytes_beq]))
    | (refine AOps.pureG rfl (fun h => hq) rfl (by first | rfl | (simp; rfl)) (by simp) (by simp) rfl ?_ <;> (try simp [-cB, *, bytes_beq]))
    | (with_reducible intro _))
  all_goals first | (simp_all; done) | grind | skip
theorem tSt1_ok (b : Nat) (t : GTables) (ht : t.wf) (locals : Int) (say : Bool) (x : GExpr) (hx : x.wf) : ACalls Tryz.prog 190 [.agg (x.enc.map .d), .rp [.v (.bool say)], .bp 5501 0] (rulH b t locals) (fun r L => r = .ret (.d (.v (.bool ((say || !saidE x.Kind) && bookE t locals x)))) ∧ L = rulH b t locals) := by
  have hq := tB1_ok t ht locals x hx
  have hs := tSaid_ok x.Kind
  unfold rulH rulesL capT at *
  generalize bookE t locals x = b at *
  generalize saidE x.Kind = d at *
  refine ACalls.runX [4] [5501] Tryz.func190 rfl (by simp [Tryz.f190]) ?_; simp [-cB, Tryz.f190]
  repeat' (first
    | (with_reducible refine And.intro ?_ ?_)
    | (refine condC_split (fun h => ?_) (fun h => ?_) <;> (try simp at h) <;> (try simp [-cB, *]))
    | (refine AOps.pureC rfl (hs) rfl rfl (by simp) rfl ?_ <;> (try simp [-cB, *]))
    | (refine AOps.pureC rfl (hq) rfl rfl (by simp) rfl ?_ <;> (try simp [-cB, *]))
    | (refine AOps.lendC rfl (hs) rfl (by simp) rfl rfl (by simp) rfl ?_ <;> (try simp [-cB, *]))
    | (refine AOps.lendC rfl (hq) rfl (by simp) rfl rfl (by simp) rfl ?_ <;> (try simp [-cB, *]))
    | (refine AOps.pureG rfl (fun h => hs) rfl (by first | rfl | (simp; rfl)) (by simp) (by simp) rfl ?_ <;> (try simp [-cB, *]))
    | (refine AOps.pureG rfl (fun h => hq) rfl (by first | rfl | (simp; rfl)) (by simp) (by simp) rfl ?_ <;> (try simp [-cB, *]))
    | (with_reducible intro _))
  all_goals (first | assumption | omega | (rw [inR_i64]; omega) | (simp_all; done) | grind | skip)
theorem tEachL_ok (b : Nat) (t : GTables) (ht : t.wf) (locals : Int) (say : Bool) (l : List GExpr) (hl : l.length ≤ 1000000000000000) (hw : ∀ x ∈ l, x.wf) :
    ACalls Tryz.prog 141 [.d (.sl (l.map GExpr.enc)), .clo (.func 190) [] [.rp [.v (.bool say)], .bp 5501 0]] (rulH b t locals) (fun r L => r = .ret (.d (.v (.bool (allB (fun x => (say || !saidE x.Kind) && bookE t locals x) l)))) ∧ L = rulH b t locals) := by
  generalize hp : (fun x : GExpr => (say || !saidE x.Kind) && bookE t locals x) = p
  unfold rulH
  refine ACalls.runX [4] [5501] Tryz.func141 rfl (by simp [Tryz.f141]) ?_; simp [-cB, Tryz.f141]
  refine AWP.loopL [1, 7, 8, 9] l (fun pre => [(9, .d (.v (.int .i64 pre.length)))]) (fun _ => []) (fun pre => allB p pre = true) (by rfl) (by omega) (by simp [allB_nil]) ?_ ?_
  · rintro pre x post hsp hH hlt hge a4
    have hall := allB_split hsp hH
    have hsn : allB p (pre ++ [x]) = p x := by simp [allB_snoc, hH]
    have hq := tSt1_ok b t ht locals say x (hw x (by rw [hsp]; simp))
    have e : ((say || !saidE x.Kind) && bookE t locals x) = p x := by rw [← hp]
    rw [e] at hq
    unfold rulH at hq
    clear hsp hw
    generalize p x = dx at *
    simp [-cB, *]
    intro bs
    refine AOps.effD [5501] rfl (hq) (by simp) rfl (by simp) rfl (by kernel_rfl) (by first | rfl | simp) (by simp) (by simp) (by simp) (by simp) ?_
    simp [-cB]
    cases dx with
    | false => simp [hall]
    | true => simp [hsn, hlt, a4]
  · intro hH
    simp [*]
end Go.Ab

namespace Go.Ab
open Go.Proofs
set_option maxHeartbeats 4000000
set_option maxRecDepth 20000
theorem tBlock_ok (t : GTables) (locals : Int) (l : List GStmt) (hl : l.length * 104 ≤ 140737488351232) (h : ∀ s ∈ l, Pure Tryz.prog 145 [.agg (rulesL t locals), .agg (s.enc.map .d)] (.d (.v (.bool (stmtE t locals s))))) :
    Pure Tryz.prog 105 [.agg (rulesL t locals), .d (.sl (l.map GStmt.enc))] (.d (.v (.bool (blockE t locals l)))) := by
  have hE : blockE t locals l = (decide (l.length ≤ 256) && allB (stmtE t locals) l) := by unfold blockE; rw [stmtsE_all]; rfl
  rw [hE]
  refine Pure.run Tryz.func105 rfl (by simp [Tryz.f105]) ?_; simp [-cB, Tryz.f105]
  intro bs
  by_cases h256 : l.length ≤ 256
  · have h2 : ¬ (256 : Int) < l.length := by omega
    simp [-cB, h256, h2]
    refine AWP.loopL [2, 10, 11, 12] l (fun pre => [(12, .d (.v (.int .i64 pre.length)))]) (fun _ => []) (fun pre => allB (stmtE t locals) pre = true) (by rfl) (by omega) (by simp [allB_nil]) ?_ ?_
    · rintro pre x post hsp hH hlt hge a4
      have hall := allB_split hsp hH
      have hsn : allB (stmtE t locals) (pre ++ [x]) = stmtE t locals x := by simp [allB_snoc, hH]
      have h3 := h x (by rw [hsp]; simp)
      clear hsp h hE
      generalize stmtE t locals x = sx at *
      simp [-cB, *]
      repeat' (first
        | (with_reducible refine And.intro ?_ ?_)
        | (refine condC_split (fun h => ?_) (fun h => ?_) <;> (try simp at h) <;> (try simp [-cB, *]))
        | (refine AOps.pureC rfl (h3) rfl rfl (by simp) rfl ?_ <;> (try simp [-cB, *]))
        | (refine AOps.lendC rfl (h3) rfl (by simp) rfl rfl (by simp) rfl ?_ <;> (try simp [-cB, *]))
        | (refine AOps.pureG rfl (fun h => h3) rfl (by first | rfl | (simp; rfl)) (by simp) (by simp) rfl ?_ <;> (try simp [-cB, *]))
        | (with_reducible intro _))
      all_goals first | (simp_all; done) | grind | skip
    · intro hH
      simp [*]
  · have h2 : (256 : Int) < l.length := by omega
    simp [-cB, h256, h2]
theorem tStmt_ok (t : GTables) (ht : t.wf) (locals : Int) (s : GStmt) (hs : s.wf) (hl : locals ≤ 9223372036854775807)
    (hb : Pure Tryz.prog 105 [.agg (rulesL t locals), .d (.sl (s.Body.map GStmt.enc))] (.d (.v (.bool (blockE t locals s.Body)))))
    (he : Pure Tryz.prog 105 [.agg (rulesL t locals), .d (.sl (s.Else.map GStmt.enc))] (.d (.v (.bool (blockE t locals s.Else))))) :
    Pure Tryz.prog 145 [.agg (rulesL t locals), .agg (s.enc.map .d)] (.d (.v (.bool (stmtE t locals s)))) := by
  have hwa := GStmt.wl_Args hs
  have hq1 := tStmtHas_ok s.Kind
  have hq2 := fun named => tB2_ok t locals s hs named hl
  have hq3 := fun b => tEachL_ok b t ht locals (decide (s.Kind = 1)) s.Args (by omega) (GStmt.wf_Args hs)
  have hE : stmtE t locals s = ((hasS s.Kind).isSome && (decide ((hasSV (hasS s.Kind)).least ≤ s.Args.length) && decide ((s.Args.length : Int) ≤ (hasSV (hasS s.Kind)).most) && ((hasSV (hasS s.Kind)).body || decide (s.Body.length = 0)) && ((hasSV (hasS s.Kind)).other || decide (s.Else.length = 0)) && nameS t s locals (hasSV (hasS s.Kind)).named && (decide (s.Kind ≠ 19) || callM s)) &&
      allB (fun x => (decide (s.Kind = 1) || !saidE x.Kind) && bookE t locals x) s.Args && blockE t locals s.Body && blockE t locals s.Else) := by
    rw [stmtE_eq]
    unfold topE hasSV
    cases hasS s.Kind with
    | none => rfl
    | some h => rfl
  have h19 : s.Kind = 19 → (hasSV (hasS s.Kind)).least = 1 := fun h => by rw [h]; rfl
  rw [hE]
  generalize allB (fun x => (decide (s.Kind = 1) || !saidE x.Kind) && bookE t locals x) s.Args = bA at *
  generalize blockE t locals s.Body = bB at *
  generalize blockE t locals s.Else = bC at *
  generalize (hasS s.Kind).isSome = is at *
  generalize hasSV (hasS s.Kind) = h at *
  obtain ⟨h1, h2, h3, h4, h5⟩ := h
  replace hq2 := hq2 h1
  generalize nameS t s locals h1 = bN at *
  unfold HasS.enc at hq1
  dsimp only at hq1 hq2 h19 ⊢
  unfold rulH at hq3
  unfold rulesL capT at *
  clear hE hl
  refine Pure.run Tryz.func145 rfl (by simp [Tryz.f145]) ?_; simp [-cB, Tryz.f145]
  repeat' (first
    | (with_reducible refine And.intro ?_ ?_)
    | (refine condC_split (fun h => ?_) (fun h => ?_) <;> (try simp at h) <;> (try simp [-cB, *]))
    | (refine AOps.pureC rfl (hq1) rfl rfl (by simp) rfl ?_ <;> (try simp [-cB, *]))
    | (refine AOps.pureC rfl (hq2) rfl rfl (by simp) rfl ?_ <;> (try simp [-cB, *]))
    | (refine AOps.lendC rfl (hq1) rfl (by simp) rfl rfl (by simp) rfl ?_ <;> (try simp [-cB, *]))
    | (refine AOps.lendC rfl (hq2) rfl (by simp) rfl rfl (by simp) rfl ?_ <;> (try simp [-cB, *]))
    | (refine AOps.pureG rfl (fun h => hq1) rfl (by first | rfl | (simp; rfl)) (by simp) (by simp) rfl ?_ <;> (try simp [-cB, *]))
    | (refine AOps.pureG rfl (fun h => hq2) rfl (by first | rfl | (simp; rfl)) (by simp) (by simp) rfl ?_ <;> (try simp [-cB, *]))
    | (with_reducible intro _))
  all_goals first | assumption | grind | skip
  have hN : is = true ∧ h4 ≤ s.Args.length ∧ (s.Args.length : Int) ≤ h5 ∧ (h2 = false → s.Body = []) ∧ (h3 = false → s.Else = []) ∧ bN = true := by grind
  clear hq1 hq2
  refine AWP.weaken (Wk.pick [2, 3] [2, 3] (by rfl) (by decide) (by simp)) ?_
  simp [-cB]
  by_cases k19 : s.Kind = 19 ∧ (s.Args[0]?.getD GExpr.zero).Kind ≠ 18
  · have hlt : 0 < s.Args.length := by have := h19 k19.1; omega
    have hcm : callM s = false := by unfold callM; simpa using k19.2
    have k3 : (s.Args[0].Kind != 18) = true := by have := k19.2; rw [List.getElem?_eq_getElem hlt] at this; simpa using this
    have k4 := k19.1
    rw [hcm]
    clear k19
    refine AWP.regionD [] Tryz.mixed (by kernel_rfl) (by rfl) ?_
    simp [-cB, hlt, k3, k4]
  · have hcm : (!decide (s.Kind = 19) || callM s) = true := by unfold callM; grind
    have hg : s.Kind = 19 → 0 < s.Args.length := fun k => by have := h19 k; omega
    have hd : (decide (s.Kind = 19) && (s.Args[0]?.getD GExpr.zero).Kind != 18) = false := by grind
    rw [hcm]
    refine AWP.regionD [] Tryz.mixed (by kernel_rfl) (by rfl) ?_
    simp [-cB, hd, hN]
    refine ⟨fun k => ⟨hg k, k⟩, ?_⟩
    intro bs1
    refine AOps.weaken (Wk.freezeB 7 (ds := [.v (.bool (decide (s.Kind = 1)))]) rfl) ?_
    simp [-cB]
    refine AOps.weaken (Wk.ren 2 5501 (by simp)) ?_
    simp [-cB]
    refine AOps.effD [5501] rfl ((hq3 _)) (by simp) rfl (by simp) rfl (by kernel_rfl) (by first | rfl | simp) (by simp) (by simp) (by simp) (by simp) ?_
    simp [-cB]
    repeat' (first
      | (with_reducible refine And.intro ?_ ?_)
      | (refine condC_split (fun h => ?_) (fun h => ?_) <;> (try simp at h) <;> (try simp [-cB, *]))
      | (refine AOps.pureC rfl (hb) rfl rfl (by simp) rfl ?_ <;> (try simp [-cB, *]))
      | (refine AOps.pureC rfl (he) rfl rfl (by simp) rfl ?_ <;> (try simp [-cB, *]))
      | (refine AOps.lendC rfl (hb) rfl (by simp) rfl rfl (by simp) rfl ?_ <;> (try simp [-cB, *]))
      | (refine AOps.lendC rfl (he) rfl (by simp) rfl rfl (by simp) rfl ?_ <;> (try simp [-cB, *]))
      | (refine AOps.pureG rfl (fun h => hb) rfl (by first | rfl | (simp; rfl)) (by simp) (by simp) rfl ?_ <;> (try simp [-cB, *]))
      | (refine AOps.pureG rfl (fun h => he) rfl (by first | rfl | (simp; rfl)) (by simp) (by simp) rfl ?_ <;> (try simp [-cB, *]))
      | (with_reducible intro _))
    all_goals first | (simp_all; done) | grind | skip
end Go.Ab

namespace Go.Ab
open Go.Proofs
set_option maxHeartbeats 4000000
set_option maxRecDepth 20000
theorem tBlk_ok (t : GTables) (ht : t.wf) (locals : Int) (hlo : locals ≤ 9223372036854775807) : ∀ (N : Nat) (l : List GStmt), SizeOf.sizeOf l < N → (∀ s ∈ l, s.wf) → l.length * 104 ≤ 140737488351232 → Pure Tryz.prog 105 [.agg (rulesL t locals), .d (.sl (l.map GStmt.enc))] (.d (.v (.bool (blockE t locals l))))
  | 0, l, h, _, _ => by omega
  | N + 1, l, h, hw, hl => tBlock_ok t locals l hl fun s hs => by
    have h1 := List.sizeOf_lt_of_mem hs
    have h2 := GStmt.lt_body s
    have h3 := GStmt.lt_else s
    have hs' := hw s hs
    exact tStmt_ok t ht locals s hs' hlo (tBlk_ok t ht locals hlo N _ (by omega) (GStmt.wf_Body hs') (GStmt.wl_Body hs')) (tBlk_ok t ht locals hlo N _ (by omega) (GStmt.wf_Else hs') (GStmt.wl_Else hs'))
theorem tBound_ok (t : GTables) (ht : t.wf) (l : List GStmt) (hw : ∀ s ∈ l, s.wf) (hl : l.length * 104 ≤ 140737488351232) (locals : Int) (hlo : locals ≤ 9223372036854775807) :
    Pure Tryz.prog 59 [.agg (t.enc.map .d), .d (.sl (l.map GStmt.enc)), .d (.v (.int .i64 locals))] (.d (.v (.bool (boundE t l locals)))) := by
  have hq1 := tDepthB_ok l hw hl
  have hq2 := tBlk_ok t ht locals hlo _ l (Nat.lt_succ_self _) hw hl
  unfold boundE
  unfold rulesL capT at hq2
  generalize blockE t locals l = b at *
  generalize deepBE 64 l = d at *
  refine Pure.run Tryz.func59 rfl (by simp [Tryz.f59]) ?_; simp [-cB, Tryz.f59]
  intro bs
  intro bs1
  refine AOps.weaken (Wk.freezeB 3 (ds := t.enc) rfl) ?_
  simp [-cB]
  refine AOps.weaken (Wk.freezeB 5 (ds := [.v (.int .i64 locals)]) rfl) ?_
  simp [-cB]
  repeat' (first
    | (with_reducible refine And.intro ?_ ?_)
    | (refine condC_split (fun h => ?_) (fun h => ?_) <;> (try simp at h) <;> (try simp [-cB, *]))
    | (refine AOps.pureC rfl (hq1) rfl rfl (by simp) rfl ?_ <;> (try simp [-cB, *]))
    | (refine AOps.pureC rfl (hq2) rfl rfl (by simp) rfl ?_ <;> (try simp [-cB, *]))
    | (refine AOps.lendC rfl (hq1) rfl (by simp) rfl rfl (by simp) rfl ?_ <;> (try simp [-cB, *]))
    | (refine AOps.lendC rfl (hq2) rfl (by simp) rfl rfl (by simp) rfl ?_ <;> (try simp [-cB, *]))
    | (refine AOps.pureG rfl (fun h => hq1) rfl (by first | rfl | (simp; rfl)) (by simp) (by simp) rfl ?_ <;> (try simp [-cB, *]))
    | (refine AOps.pureG rfl (fun h => hq2) rfl (by first | rfl | (simp; rfl)) (by simp) (by simp) rfl ?_ <;> (try simp [-cB, *]))
    | (with_reducible intro _))
  all_goals first | (simp_all; done) | grind | skip
end Go.Ab

namespace Go.Ab
open Go.Proofs
set_option maxHeartbeats 4000000
set_option maxRecDepth 20000
def idxP {α : Type} (p : α → Bool) (l : List α) : Int := match l.findIdx? p with
  | some i => i
  | none => -1
theorem idxP_hit {α : Type} {p : α → Bool} {l pre post : List α} {x : α} (h : l = pre ++ x :: post) (hp : pre.any p = false) (hx : p x = true) : idxP p l = pre.length := by
  have : l.findIdx? p = some pre.length := by
    subst h
    rw [List.findIdx?_append, List.findIdx?_eq_none_iff.2 (fun y hy => by have := List.any_eq_false.1 hp y hy; simpa using this)]
    simp [List.findIdx?_cons, hx]
  unfold idxP; rw [this]
theorem idxP_none {α : Type} {p : α → Bool} {l : List α} (hp : l.any p = false) : idxP p l = -1 := by
  have : l.findIdx? p = none := List.findIdx?_eq_none_iff.2 (fun y hy => by have := List.any_eq_false.1 hp y hy; simpa using this)
  unfold idxP; rw [this]
theorem idxP_any {α : Type} (p : α → Bool) (l : List α) : decide (0 ≤ idxP p l) = l.any p := by
  unfold idxP
  cases h : l.findIdx? p with
  | none =>
    have : l.any p = false := by rw [List.any_eq_false]; intro y hy; have := List.findIdx?_eq_none_iff.1 h y hy; simp [this]
    rw [this]; rfl
  | some i =>
    have : l.any p = true := by
      obtain ⟨h1, h2, -⟩ := List.findIdx?_eq_some_iff_getElem.1 h
      exact List.any_eq_true.2 ⟨_, List.getElem_mem h1, h2⟩
    rw [this]; simp
theorem idxS_ok (l : List GStmt) (hl : l.length ≤ 1000000000000000) (g : Nat) (caps : List V) (hc : V.ons [] caps = true) (p : GStmt → Bool) (h : ∀ x ∈ l, Pure Tryz.prog g (.agg (x.enc.map .d) :: caps) (.d (.v (.bool (p x))))) :
    Pure Tryz.prog 146 [.d (.sl (l.map GStmt.enc)), .clo (.func g) [] caps] (.d (.v (.int .i64 (idxP p l)))) := by
  refine Pure.run Tryz.func146 rfl (by simp [Tryz.f146, hc]) ?_; simp [-cB, Tryz.f146, hc]
  refine AWP.loopL [0, 1, 7, 8] l (fun pre => [(8, .d (.v (.int .i64 pre.length)))]) (fun _ => []) (fun pre => pre.any p = false) (by rfl) (by omega) (by simp [hc]) ?_ ?_
  · rintro pre x post hsp hH hlt hge a4
    have hhit := fun hx => idxP_hit hsp hH hx
    have hsn : (pre ++ [x]).any p = p x := by rw [List.any_append, hH]; simp
    have h3 := h x (by rw [hsp]; simp)
    clear hsp h
    generalize p x = px at *
    simp [-cB, *]
    repeat' (first
      | (with_reducible refine And.intro ?_ ?_)
      | (refine condC_split (fun h => ?_) (fun h => ?_) <;> (try simp at h) <;> (try simp [-cB, *]))
      | (refine AOps.pureC rfl (h3) rfl rfl (by simp) rfl ?_ <;> (try simp [-cB, *]))
      | (refine AOps.lendC rfl (h3) rfl (by simp) rfl rfl (by simp) rfl ?_ <;> (try simp [-cB, *]))
      | (refine AOps.pureG rfl (fun h => h3) rfl (by first | rfl | (simp; rfl)) (by simp) (by simp) rfl ?_ <;> (try simp [-cB, *]))
      | (with_reducible intro _))
    all_goals first | (simp_all; done) | grind | skip
  · intro hH
    simp [*, idxP_none hH]
theorem anyS_ok (l : List GStmt) (hl : l.length ≤ 1000000000000000) (g : Nat) (caps : List V) (hc : V.ons [] caps = true) (p : GStmt → Bool) (h : ∀ x ∈ l, Pure Tryz.prog g (.agg (x.enc.map .d) :: caps) (.d (.v (.bool (p x))))) :
    Pure Tryz.prog 106 [.d (.sl (l.map GStmt.enc)), .clo (.func g) [] caps] (.d (.v (.bool (l.any p)))) := by
  have hq := idxS_ok l hl g caps hc p h
  rw [← idxP_any]
  refine Pure.run Tryz.func106 rfl (by simp [Tryz.f106, hc]) ?_; simp [-cB, Tryz.f106, hc]
  repeat' (first
    | (with_reducible refine And.intro ?_ ?_)
    | (refine condC_split (fun h => ?_) (fun h => ?_) <;> (try simp at h) <;> (try simp [-cB, *, hc]))
    | (refine AOps.pureC rfl (hq) rfl rfl (by simp) rfl ?_ <;> (try simp [-cB, *, hc]))
    | (refine AOps.lendC rfl (hq) rfl (by simp) rfl rfl (by simp) rfl ?_ <;> (try simp [-cB, *, hc]))
    | (refine AOps.pureG rfl (fun h => hq) rfl (by first | rfl | (simp; rfl)) (by simp) (by simp) rfl ?_ <;> (try simp [-cB, *, hc]))
    | (with_reducible intro _))
theorem idxI_ok (l : List GIns) (hl : l.length ≤ 1000000000000000) (g : Nat) (caps : List V) (hc : V.ons [] caps = true) (p : GIns → Bool) (h : ∀ x ∈ l, Pure Tryz.prog g (.agg (x.enc.map .d) :: caps) (.d (.v (.bool (p x))))) :
    Pure Tryz.prog 198 [.d (.sl (l.map GIns.enc)), .clo (.func g) [] caps] (.d (.v (.int .i64 (idxP p l)))) := by
  refine Pure.run Tryz.func198 rfl (by simp [Tryz.f198, hc]) ?_; simp [-cB, Tryz.f198, hc]
  refine AWP.loopL [0, 1, 7, 8] l (fun pre => [(8, .d (.v (.int .i64 pre.length)))]) (fun _ => []) (fun pre => pre.any p = false) (by rfl) (by omega) (by simp [hc]) ?_ ?_
  · rintro pre x post hsp hH hlt hge a4
    have hhit := fun hx => idxP_hit hsp hH hx
    have hsn : (pre ++ [x]).any p = p x := by rw [List.any_append, hH]; simp
    have h3 := h x (by rw [hsp]; simp)
    clear hsp h
    generalize p x = px at *
    simp [-cB, *]
    repeat' (first
      | (with_reducible refine And.intro ?_ ?_)
      | (refine condC_split (fun h => ?_) (fun h => ?_) <;> (try simp at h) <;> (try simp [-cB, *]))
      | (refine AOps.pureC rfl (h3) rfl rfl (by simp) rfl ?_ <;> (try simp [-cB, *]))
      | (refine AOps.lendC rfl (h3) rfl (by simp) rfl rfl (by simp) rfl ?_ <;> (try simp [-cB, *]))
      | (refine AOps.pureG rfl (fun h => h3) rfl (by first | rfl | (simp; rfl)) (by simp) (by simp) rfl ?_ <;> (try simp [-cB, *]))
      | (with_reducible intro _))
    all_goals first | (simp_all; done) | grind | skip
  · intro hH
    simp [*, idxP_none hH]
theorem anyI_ok (l : List GIns) (hl : l.length ≤ 1000000000000000) (g : Nat) (caps : List V) (hc : V.ons [] caps = true) (p : GIns → Bool) (h : ∀ x ∈ l, Pure Tryz.prog g (.agg (x.enc.map .d) :: caps) (.d (.v (.bool (p x))))) :
    Pure Tryz.prog 171 [.d (.sl (l.map GIns.enc)), .clo (.func g) [] caps] (.d (.v (.bool (l.any p)))) := by
  have hq := idxI_ok l hl g caps hc p h
  rw [← idxP_any]
  refine Pure.run Tryz.func171 rfl (by simp [Tryz.f171, hc]) ?_; simp [-cB, Tryz.f171, hc]
  repeat' (first
    | (with_reducible refine And.intro ?_ ?_)
    | (refine condC_split (fun h => ?_) (fun h => ?_) <;> (try simp at h) <;> (try simp [-cB, *, hc]))
    | (refine AOps.pureC rfl (hq) rfl rfl (by simp) rfl ?_ <;> (try simp [-cB, *, hc]))
    | (refine AOps.lendC rfl (hq) rfl (by simp) rfl rfl (by simp) rfl ?_ <;> (try simp [-cB, *, hc]))
    | (refine AOps.pureG rfl (fun h => hq) rfl (by first | rfl | (simp; rfl)) (by simp) (by simp) rfl ?_ <;> (try simp [-cB, *, hc]))
    | (with_reducible intro _))
end Go.Ab

namespace Go.Ab
def wayR (l r : List GIns) : Nat → Option (Nat × Nat × List GIns)
  | 0 => if opA r 0 = 1 ∧ opA r 1 = 1 ∧ opA r 2 = 8 ∧ argA r 2 ≠ 9 ∧ (binR GWorld.zero (argA r 2) (argA r 0) (argA r 1)).2 = 0 then some (0, 3, pushI (binR GWorld.zero (argA r 2) (argA r 0) (argA r 1)).1) else none
  | 1 => if opA r 0 ≠ 1 then none else if opA r 1 = 9 then some (0, 2, pushI (negM (argA r 0))) else if opA r 1 = 10 then some (0, 2, pushI (notM (argA r 0))) else if opA r 1 = 11 then some (0, 2, pushI (1 - notM (argA r 0))) else none
  | 2 => if opA r 0 = 10 ∧ opA r 1 = 10 ∧ opA r 2 = 25 then some (0, 2, []) else none
  | 3 => if opA r 0 = 1 ∧ opA r 1 = 25 ∧ wrapM (argA r 0) = 0 then some (0, 2, [⟨24, argA r 1⟩]) else none
  | 4 => if opA r 0 = 1 ∧ opA r 1 = 25 ∧ wrapM (argA r 0) ≠ 0 then some (0, 2, []) else none
  | 5 => if opA r 0 = 1 ∧ opA r 1 = 2 then some (0, 2, []) else none
  | 6 => if endsOp (opA r 0) ∧ 0 < deadN r.tail then some (1, deadN r.tail, []) else none
  | 7 => if opA r 0 = 24 ∧ (r.tail.takeWhile isLab).any (fun i => decide (i.Arg = argA r 0)) = true then some (0, 1, []) else none
  | 8 => if opA r 0 = 24 ∨ opA r 0 = 25 then (farM l r).map fun x => (0, 1, x) else none
  | 9 => if opA r 0 = 38 ∧ askedL l (argA r 0) = false then some (0, 1, []) else none
  | _ => none
def orA {α : Type} : Option α → Option α → Option α
  | some x, _ => some x
  | none, y => y
def firstR (l r : List GIns) : Nat → Nat → Option (Nat × Nat × List GIns)
  | 0, _ => none
  | n + 1, k => orA (wayR l r k) (firstR l r n (k + 1))
theorem firstR_eq (l r : List GIns) : firstR l r 10 0 = betterR l r := by
  simp only [firstR]
  unfold betterR reckM knownM
  by_cases c0 : opA r 0 = 1 ∧ opA r 1 = 1 ∧ opA r 2 = 8 ∧ argA r 2 ≠ 9 ∧ (binR GWorld.zero (argA r 2) (argA r 0) (argA r 1)).2 = 0
  · simp only [wayR, if_pos c0, orA]
  · by_cases h1 : opA r 0 = 1
    · have e24 : ¬ (1 : Int) = 24 := by omega
      simp only [wayR, if_neg c0, h1, orA, endsOp]
      by_cases k9 : opA r 1 = 9
      · simp [k9, orA]
      by_cases k10 : opA r 1 = 10
      · simp [k10, orA]
      by_cases k11 : opA r 1 = 11
      · simp [k11, orA]
      by_cases k25 : opA r 1 = 25
      · by_cases kw : wrapM (argA r 0) = 0 <;> simp [k25, kw, orA]
      by_cases k2 : opA r 1 = 2
      · simp [k2, orA]
      have c1 : ¬ (opA r 1 = 1 ∧ opA r 2 = 8 ∧ ¬argA r 2 = 9 ∧ (binR GWorld.zero (argA r 2) (argA r 0) (argA r 1)).2 = 0) := fun h => c0 ⟨h1, h⟩
      simp [k9, k10, k11, k25, k2, orA, c1]
    · simp only [wayR, if_neg c0, h1, orA, ne_eq, not_false_eq_true, if_true, false_and, if_false]
      by_cases h10 : opA r 0 = 10 ∧ opA r 1 = 10 ∧ opA r 2 = 25
      · simp [h10, orA]
      rw [if_neg h10, if_neg h10]
      simp only [orA]
      by_cases h6 : endsOp (opA r 0) ∧ 0 < deadN r.tail
      · simp [h6, orA]
      rw [if_neg h6, if_neg h6]
      simp only [orA]
      by_cases hj : opA r 0 = 24 ∨ opA r 0 = 25
      · rw [if_pos hj, if_pos hj]
        by_cases h7 : opA r 0 = 24 ∧ (r.tail.takeWhile isLab).any (fun i => decide (i.Arg = argA r 0)) = true
        · rw [if_pos h7, if_pos h7]
        · rw [if_neg h7, if_neg h7]
          have h38 : ¬ (opA r 0 = 38 ∧ askedL l (argA r 0) = false) := by omega
          rw [if_neg h38]
          cases (farM l r).map (fun x => ((0 : Nat), (1 : Nat), x)) <;> rfl
      · rw [if_neg hj, if_neg hj, if_neg (by omega)]
        generalize (if opA r 0 = 38 ∧ askedL l (argA r 0) = false then some ((0 : Nat), (1 : Nat), ([] : List GIns)) else none) = z
        cases z <;> rfl
theorem firstR_skip (l r : List GIns) : ∀ (k n m : Nat), n + k = m → (∀ j, j < k → wayR l r j = none) → firstR l r m 0 = firstR l r n k
  | 0, n, m, h, _ => by rw [show m = n by omega]
  | k + 1, n, m, h, hj => by
    rw [firstR_skip l r k (n + 1) m (by omega) (fun j h => hj j (by omega)), firstR, hj k (by omega)]; rfl
end Go.Ab

namespace Go.Ab
open Go.Proofs
theorem bin1_ok (b : Bool) : Pure Tryz.prog 206 [.d (.v (.bool b))] (.tup [.d (.v (.int .i64 (tru b))), .d (.v (.int .i64 0))]) := by
  unfold tru
  cases b
  · refine Pure.run Tryz.func206 rfl (by simp [Tryz.f206]) ?_; simp [-cB, Tryz.f206]
  · refine Pure.run Tryz.func206 rfl (by simp [Tryz.f206]) ?_; simp [-cB, Tryz.f206]
set_option maxHeartbeats 4000000 in
set_option maxRecDepth 6000 in
theorem binO_ok (w : GWorld) (op a b : Int) (ho : op = 1 ∨ op = 2 ∨ op = 3 ∨ op = 4 ∨ op = 5 ∨ op = 6 ∨ op = 7 ∨ op = 8 ∨ op = 10 ∨ op = 11 ∨ op = 12 ∨ op = 13 ∨ op = 14) : Pure Tryz.prog 192 [.agg (w.enc.map .d), .d (.v (.int .i64 op)), .d (.v (.int .i64 a)), .d (.v (.int .i64 b))] (pr2 (binR w op a b)) := by
  have hd := div_ok (wrapM a) (wrapM b)
  have hm := mod_ok (wrapM a) (wrapM b)
  unfold pr2 at hd hm ⊢
  rcases ho with rfl | rfl | rfl | rfl | rfl | rfl | rfl | rfl | rfl | rfl | rfl | rfl | rfl
  all_goals
    refine Pure.runA Tryz.func192 rfl (by simp [Tryz.f192]) ?_
    refine AWP.named (fun Q0 hQ0 => ?_)
    simp only [Tryz.f192]
    refine AWP.seqK ?_
    simp [-cB]
    intro bs
    refine AWP.seqK ?_
    simp [-cB]
    refine AOps.pureC rfl (wrap_ok _) rfl rfl (by simp) rfl ?_
    simp [-cB]
    refine AOps.pureC rfl (wrap_ok _) rfl rfl (by simp) rfl ?_
    simp [-cB]
    refine AWP.seqK ?_
    simp [-cB]
    refine AWP.seq ?_
    refine AWP.seqK ?_
    simp [-cB]
    refine AWP.block ?_
    iterate 14 (refine AWP.seq (AWP.block ?_))
    refine AWP.named (fun Q1 hQ1 => ?_)
    refine AWP.ofK ?_
    simp [-cB]
    rw [hQ1]
    repeat (first | refine inB_ne ?_ (by decide) | refine thn_ne ?_)
    refine inB_eq (thn_nrm ?_)
    try (refine AWP.named (fun Q3 hQ3 => ?_); refine AWP.ofK ?_; simp [-cB]; rw [hQ3]; refine inB_nrm (thn_nrm ?_))
    refine AWP.named (fun Q2 hQ2 => ?_)
    refine AWP.ofK ?_
    simp [-cB]
    first
      | refine AOps.pureC rfl (bin1_ok _) rfl rfl (by simp) rfl ?_
      | refine AOps.pureC rfl (add_ok _ _) rfl rfl (by simp) rfl ?_
      | refine AOps.pureC rfl (sub_ok _ _) rfl rfl (by simp) rfl ?_
      | refine AOps.pureC rfl (mul_ok _ _) rfl rfl (by simp) rfl ?_
      | refine AOps.pureC rfl (hd) rfl rfl (by simp) rfl ?_
      | refine AOps.pureC rfl (hm) rfl rfl (by simp) rfl ?_
    simp [-cB]
    rw [hQ2]
    repeat (first | refine inB_ret ?_ | refine thn_ret ?_)
    rw [hQ0]
    simp [binR]
    all_goals rfl
set_option maxRecDepth 6000 in
theorem binO9_ok (w : GWorld) (hC : w.Child.length = w.Parent.length) (hN : w.Next.length = w.Parent.length) (a b : Int) : Pure Tryz.prog 192 [.agg (w.enc.map .d), .d (.v (.int .i64 9)), .d (.v (.int .i64 a)), .d (.v (.int .i64 b))] (pr2 (binR w 9 a b)) := by
  have hT := tree_ok w hC hN 1 (wrapM a)
  have hB : binR w 9 a b = if (treeR w 1 (wrapM a)).2 = 0 then (tru (decide ((treeR w 1 (wrapM a)).1 = wrapM b)), 0) else (0, (treeR w 1 (wrapM a)).2) := by
    simp only [binR, treeR, wrapM_wrapM]
    cases isT w.Parent.length (wrapM a) <;> simp
  rw [hB]
  unfold pr2 at hT ⊢
  generalize treeR w 1 (wrapM a) = p at *
  refine Pure.runA Tryz.func192 rfl (by simp [Tryz.f192]) ?_
  refine AWP.named (fun Q0 hQ0 => ?_)
  simp only [Tryz.f192]
  refine AWP.seqK ?_
  simp [-cB]
  intro bs
  refine AWP.seqK ?_
  simp [-cB]
  refine AOps.pureC rfl (wrap_ok _) rfl rfl (by simp) rfl ?_
  simp [-cB]
  refine AOps.pureC rfl (wrap_ok _) rfl rfl (by simp) rfl ?_
  simp [-cB]
  refine AWP.seqK ?_
  simp [-cB]
  refine AWP.seq ?_
  refine AWP.seqK ?_
  simp [-cB]
  refine AWP.block ?_
  iterate 14 (refine AWP.seq (AWP.block ?_))
  refine AWP.named (fun Q1 hQ1 => ?_)
  refine AWP.ofK ?_
  simp [-cB]
  rw [hQ1]
  repeat (first | refine inB_ne ?_ (by decide) | refine thn_ne ?_)
  refine inB_eq (thn_nrm ?_)
  refine AWP.named (fun Q2 hQ2 => ?_)
  refine AWP.ofK ?_
  simp [-cB]
  by_cases he : p.2 = 0
  · rw [he] at hT
    refine AOps.pureC rfl (hT) rfl rfl (by simp) rfl ?_
    simp [-cB]
    refine AOps.pureC rfl (bin1_ok _) rfl rfl (by simp) rfl ?_
    simp [-cB]
    rw [hQ2]
    repeat (first | refine inB_ret ?_ | refine thn_ret ?_)
    rw [hQ0]
    simp [he]
  · refine AOps.pureC rfl (hT) rfl rfl (by simp) rfl ?_
    simp [-cB, he]
    rw [hQ2]
    repeat (first | refine inB_ret ?_ | refine thn_ret ?_)
    rw [hQ0]
    simp [he]
set_option maxRecDepth 6000 in
theorem binOx_ok (w : GWorld) (op a b : Int) (ho : op < 1 ∨ 14 < op) : Pure Tryz.prog 192 [.agg (w.enc.map .d), .d (.v (.int .i64 op)), .d (.v (.int .i64 a)), .d (.v (.int .i64 b))] (pr2 (binR w op a b)) := by
  have n1 : op ≠ 1 := by omega
  have n2 : op ≠ 2 := by omega
  have n3 : op ≠ 3 := by omega
  have n4 : op ≠ 4 := by omega
  have n5 : op ≠ 5 := by omega
  have n6 : op ≠ 6 := by omega
  have n7 : op ≠ 7 := by omega
  have n8 : op ≠ 8 := by omega
  have n9 : op ≠ 9 := by omega
  have n10 : op ≠ 10 := by omega
  have n11 : op ≠ 11 := by omega
  have n12 : op ≠ 12 := by omega
  have n13 : op ≠ 13 := by omega
  have n14 : op ≠ 14 := by omega
  have hB : binR w op a b = (0, 16) := by simp [binR, n1, n2, n3, n4, n5, n6, n7, n8, n9, n10, n11, n12, n13, n14]
  rw [hB]
  unfold pr2
  refine Pure.runA Tryz.func192 rfl (by simp [Tryz.f192]) ?_
  refine AWP.named (fun Q0 hQ0 => ?_)
  simp only [Tryz.f192]
  refine AWP.seqK ?_
  simp [-cB]
  intro bs
  refine AWP.seqK ?_
  simp [-cB]
  refine AOps.pureC rfl (wrap_ok _) rfl rfl (by simp) rfl ?_
  simp [-cB]
  refine AOps.pureC rfl (wrap_ok _) rfl rfl (by simp) rfl ?_
  simp [-cB]
  refine AWP.seqK ?_
  simp [-cB]
  refine AWP.seq ?_
  refine AWP.seqK ?_
  simp [-cB]
  refine AWP.block ?_
  iterate 14 (refine AWP.seq (AWP.block ?_))
  refine AWP.named (fun Q1 hQ1 => ?_)
  refine AWP.ofK ?_
  simp [-cB, n1, n2, n3, n4, n5, n6, n7, n8, n9, n10, n11, n12, n13, n14]
  rw [hQ1]
  repeat (first | refine inB_ne ?_ (by decide) | refine thn_ne ?_)
  refine inB_eq (thn_nrm ?_)
  refine AWP.named (fun Q2 hQ2 => ?_)
  refine AWP.ofK ?_
  simp [-cB]
  rw [hQ2]
  rw [hQ0]
  simp
theorem bin_ok (w : GWorld) (op : Int) (h9 : op = 9 → w.Child.length = w.Parent.length ∧ w.Next.length = w.Parent.length) (a b : Int) : Pure Tryz.prog 192 [.agg (w.enc.map .d), .d (.v (.int .i64 op)), .d (.v (.int .i64 a)), .d (.v (.int .i64 b))] (pr2 (binR w op a b)) := by
  have : (op < 1 ∨ 14 < op) ∨ op = 9 ∨ op = 1 ∨ op = 2 ∨ op = 3 ∨ op = 4 ∨ op = 5 ∨ op = 6 ∨ op = 7 ∨ op = 8 ∨ op = 10 ∨ op = 11 ∨ op = 12 ∨ op = 13 ∨ op = 14 := by omega
  rcases this with h | rfl | h
  · exact binOx_ok w op a b h
  · exact binO9_ok w (h9 rfl).1 (h9 rfl).2 a b
  · exact binO_ok w op a b h
end Go.Ab

namespace Go.Ab
open Go.Proofs
set_option maxHeartbeats 4000000
set_option maxRecDepth 20000
def isO (r : List GIns) (ops : List Int) : Bool := decide ((r.map GIns.Op).take ops.length = ops)
theorem pEnds_ok (i : GIns) : Pure Tryz.prog 197 [.agg (i.enc.map .d)] (.d (.v (.bool (decide (endsOp i.Op))))) := by
  unfold endsOp
  refine Pure.run Tryz.func197 rfl (by simp [Tryz.f197]) ?_; simp [-cB, Tryz.f197]
  intro bs
  repeat' (first
    | (with_reducible refine And.intro ?_ ?_)
    | (refine condC_split (fun h => ?_) (fun h => ?_) <;> (try simp at h) <;> (try simp [-cB, *]))
    | (with_reducible intro _))
  all_goals first | (simp_all; done) | grind | skip
theorem pJumps_ok (i : GIns) : Pure Tryz.prog 176 [.agg (i.enc.map .d)] (.d (.v (.bool (decide (i.Op = 24) || decide (i.Op = 25))))) := by
  refine Pure.run Tryz.func176 rfl (by simp [Tryz.f176]) ?_; simp [-cB, Tryz.f176]
theorem pZero_ok (i : GIns) : Pure Tryz.prog 169 [.agg (i.enc.map .d)] (.d (.v (.bool (decide (wrapM i.Arg = 0))))) := by
  have hq := not_ok i.Arg
  refine Pure.run Tryz.func169 rfl (by simp [Tryz.f169]) ?_; simp [-cB, Tryz.f169]
  intro bs
  refine AOps.pureC rfl (hq) rfl rfl (by simp) rfl ?_
  simp [-cB, tru]
def labNo : List GIns → Nat
  | [] => 0
  | i :: r => if i.Op = 38 then labNo r + 1 else 0
theorem labNo_spec : ∀ r : List GIns, (∀ k, k < labNo r → ∃ x, r[k]? = some x ∧ x.Op = 38) ∧ (∀ x, r[labNo r]? = some x → x.Op ≠ 38) ∧ labNo r ≤ r.length ∧ r.dropWhile isLab = r.drop (labNo r) ∧ r.takeWhile isLab = r.take (labNo r)
  | [] => ⟨fun k hk => by simp [labNo] at hk, fun x hx => by simp at hx, Nat.le_refl _, rfl, rfl⟩
  | i :: r => by
    obtain ⟨h1, h2, h3, h4, h5⟩ := labNo_spec r
    by_cases hi : i.Op = 38
    · have hl : isLab i = true := by unfold isLab; simp [hi]
      have e : labNo (i :: r) = labNo r + 1 := by rw [labNo, if_pos hi]
      rw [e]
      refine ⟨fun k hk => ?_, fun x hx => h2 x (by simpa using hx), by simp; omega, by rw [List.dropWhile_cons, hl, if_pos rfl, h4]; rfl, by rw [List.takeWhile_cons, hl, if_pos rfl, h5]; rfl⟩
      cases k with
      | zero => exact ⟨i, rfl, hi⟩
      | succ k => exact h1 k (by omega)
    · have hl : isLab i = false := by unfold isLab; simp [hi]
      have e : labNo (i :: r) = 0 := by rw [labNo, if_neg hi]
      rw [e]
      refine ⟨fun k hk => by omega, fun x hx => by simp at hx; rw [← hx]; exact hi, Nat.zero_le _, by rw [List.dropWhile_cons, hl]; rfl, by rw [List.takeWhile_cons, hl]; rfl⟩
theorem pPast_ok (l : List GIns) (hl : l.length ≤ 1000000000000) (i : Nat) (hi : i ≤ l.length) : Pure Tryz.prog 172 [.d (.sl (l.map GIns.enc)), .d (.v (.int .i64 i))] (.d (.v (.int .i64 ((i : Int) + labNo (l.drop i))))) := by
  obtain ⟨hin, hend, hle, -⟩ := labNo_spec (l.drop i)
  rw [List.length_drop] at hle
  simp only [List.getElem?_drop] at hin hend
  generalize labNo (l.drop i) = N at *
  refine Pure.run Tryz.func172 rfl (by simp [Tryz.f172]) ?_; simp [-cB, Tryz.f172]
  refine AWP.loopS [0, 1] N (fun k => [(1, .d (.v (.int .i64 ((i : Int) + k))))]) (fun _ => []) (fun _ => True) (by rfl) (by simp) ?_
  intro k hk _
  have hki : ((i : Int) + k).toNat = i + k := by omega
  rcases Nat.lt_or_eq_of_le hk with hlt | rfl
  · obtain ⟨x, hx, hx2⟩ := hin k hlt
    have h64 : inR .i64 ((i : Int) + k + 1) := by rw [inR_i64]; omega
    have hlt' : (i : Int) + k < l.length := by omega
    simp [-cB, hlt', hki, hx, hx2, h64]
    exact ⟨⟨by omega, by omega⟩, hlt, by omega⟩
  · by_cases hlt' : (i : Int) + k < l.length
    · obtain ⟨x, hx⟩ : ∃ x, l[i + k]? = some x := ⟨_, List.getElem?_eq_getElem (by omega)⟩
      have hx2 := hend x hx
      simp [-cB, hlt', hki, hx, hx2]
      exact ⟨by omega, by omega⟩
    · simp [-cB, hlt']
theorem isO_false {r : List GIns} {ops : List Int} (k : Nat) (hk : k < ops.length) (h : (r[k]?.map GIns.Op) ≠ ops[k]?) : isO r ops = false := by
  unfold isO
  rw [decide_eq_false_iff_not]
  intro e
  apply h
  have := congrArg (·[k]?) e
  simp only [List.getElem?_take, hk, if_true, List.getElem?_map] at this
  exact this
theorem pIs_ok (l : List GIns) (hl : l.length ≤ 1000000000000) (i : Nat) (hi : i ≤ l.length) (ops : List Int) (ho : ops.length ≤ 1000) : Pure Tryz.prog 168 [.d (.sl (l.map GIns.enc)), .d (.v (.int .i64 i)), .d (.sl (encI ops))] (.d (.v (.bool (isO (l.drop i) ops)))) := by
  have h64 : inR .i64 ((l.length : Int) - i) := by rw [inR_i64]; omega
  by_cases hs : (l.length : Int) - i < ops.length
  · have hf : isO (l.drop i) ops = false := by
      unfold isO
      rw [decide_eq_false_iff_not]
      intro e
      have := congrArg List.length e
      simp at this
      omega
    rw [hf]
    refine Pure.run Tryz.func168 rfl (by simp [Tryz.f168]) ?_; simp [-cB, Tryz.f168]
    simp [-cB, h64, hs]
  · have hno := fun (k : Nat) (hk : k < ops.length) (h : ((l.drop i)[k]?.map GIns.Op) ≠ ops[k]?) => isO_false (r := l.drop i) k hk h
    have hyes : (∀ k, k < ops.length → ((l.drop i)[k]?.map GIns.Op) = ops[k]?) → isO (l.drop i) ops = true := fun h => by
      unfold isO
      rw [decide_eq_true_eq]
      refine List.ext_getElem? fun k => ?_
      rw [List.getElem?_take]
      split
      · rename_i hk; rw [List.getElem?_map, h k hk]
      · rw [List.getElem?_eq_none (by omega)]
    generalize isO (l.drop i) ops = b at *
    refine Pure.run Tryz.func168 rfl (by simp [Tryz.f168]) ?_; simp [-cB, Tryz.f168]
    simp [-cB, h64, hs]
    refine AWP.loopS [0, 1, 16, 17, 18] ops.length (fun k => [(18, .d (.v (.int .i64 k)))]) (fun _ => []) (fun k => ∀ j, j < k → ((l.drop i)[j]?.map GIns.Op) = ops[j]?) (by rfl) (by simp) ?_
    intro k hk hH
    rcases Nat.lt_or_eq_of_le hk with hlt | rfl
    · have hki : ((i : Int) + k).toNat = i + k := by omega
      have j64 : inR .i64 ((i : Int) + k) := by rw [inR_i64]; omega
      have k64 : inR .i64 ((k : Int) + 1) := by rw [inR_i64]; omega
      obtain ⟨x, hx⟩ : ∃ x, l[i + k]? = some x := ⟨_, List.getElem?_eq_getElem (by omega)⟩
      obtain ⟨o, ho2⟩ : ∃ o, ops[k]? = some o := ⟨_, List.getElem?_eq_getElem (by omega)⟩
      have hn := hno k hlt
      rw [List.getElem?_drop, hx, ho2] at hn
      simp [-cB, hlt, hki, hx, ho2, j64, k64]
      refine ⟨⟨by omega, by omega⟩, ?_⟩
      have hok : ops[k] = o := by rw [List.getElem?_eq_getElem hlt] at ho2; exact Option.some.inj ho2
      by_cases e : x.Op = o
      · have e' : (x.Op != ops[k]) = false := by rw [hok]; simp [e]
        simp [-cB, e', k64, hlt]
        intro j hj
        rcases Nat.lt_or_eq_of_le (Nat.le_of_lt_succ hj) with h1 | rfl
        · have := hH j h1
          rw [List.getElem?_drop] at this
          exact this
        · rw [hx, ho2, ← e]; rfl
      · have e' : (x.Op != ops[k]) = true := by rw [hok]; simpa using e
        have hb := hn (by simpa using e)
        simp [-cB, e', hb]
    · have := hyes hH
      simp [-cB, this]
theorem isO_iff (r : List GIns) : ∀ ops : List Int, (∀ o ∈ ops, o ≠ 0) → (isO r ops = true ↔ ∀ k, k < ops.length → some (opA r k) = ops[k]?) := fun ops h => by
  unfold isO opA
  rw [decide_eq_true_eq]
  constructor
  · intro e k hk
    have := congrArg (·[k]?) e
    simp only [List.getElem?_take, hk, if_true, List.getElem?_map] at this
    rw [List.getElem?_eq_getElem hk] at this ⊢
    rw [this]; rfl
  · intro e
    refine List.ext_getElem? fun k => ?_
    rw [List.getElem?_take]
    split
    · rename_i hk
      have := e k hk
      rw [List.getElem?_map]
      rw [List.getElem?_eq_getElem hk] at this ⊢
      cases hr : r[k]? with
      | none =>
        rw [hr] at this
        exact absurd (Option.some.inj this).symm (h _ (List.getElem_mem hk))
      | some x => rw [hr] at this; exact this
    · rw [List.getElem?_eq_none (by omega)]
theorem isO1 (r : List GIns) {a : Int} (ha : a ≠ 0) : isO r [a] = decide (opA r 0 = a) := by
  rw [Bool.eq_iff_iff, isO_iff r [a] (by simp [ha]), decide_eq_true_eq]
  constructor
  · intro h; exact Option.some.inj (h 0 (by simp))
  · intro h k hk; have : k = 0 := by simpa using hk
    subst this; simp [h]
theorem isO2 (r : List GIns) {a b : Int} (ha : a ≠ 0) (hb : b ≠ 0) : isO r [a, b] = decide (opA r 0 = a ∧ opA r 1 = b) := by
  rw [Bool.eq_iff_iff, isO_iff r [a, b] (by simp [ha, hb]), decide_eq_true_eq]
  constructor
  · intro h; exact ⟨Option.some.inj (h 0 (by simp)), Option.some.inj (h 1 (by simp))⟩
  · rintro ⟨h1, h2⟩ k hk
    match k, hk with
    | 0, _ => simp [h1]
    | 1, _ => simp [h2]
theorem isO3 (r : List GIns) {a b c : Int} (ha : a ≠ 0) (hb : b ≠ 0) (hc : c ≠ 0) : isO r [a, b, c] = decide (opA r 0 = a ∧ opA r 1 = b ∧ opA r 2 = c) := by
  rw [Bool.eq_iff_iff, isO_iff r [a, b, c] (by simp [ha, hb, hc]), decide_eq_true_eq]
  constructor
  · intro h; exact ⟨Option.some.inj (h 0 (by simp)), Option.some.inj (h 1 (by simp)), Option.some.inj (h 2 (by simp))⟩
  · rintro ⟨h1, h2, h3⟩ k hk
    match k, hk with
    | 0, _ => simp [h1]
    | 1, _ => simp [h2]
    | 2, _ => simp [h3]
def knwM (op n : Int) : Option Int := if op = 9 then some (negM n) else if op = 10 then some (notM n) else if op = 11 then some (1 - notM n) else none
theorem pKnown_ok (op n : Int) : Pure Tryz.prog 194 [.d (.v (.int .i64 op)), .d (.v (.int .i64 n))] (.tup [.d (.v (.int .i64 ((knwM op n).getD 0))), .d (.v (.bool (knwM op n).isSome))]) := by
  have hq := not_ok n
  have hb := (bin_ok GWorld.zero 11 (by decide) 0 n).deep 0 (args := [.agg [.d (.v (.slice none 0 0)), .d (.v (.slice none 0 0)), .d (.v (.slice none 0 0)), .d (.v (.slice none 0 0)), .d (.v (.slice none 0 0)), .d (.v (.slice none 0 0)), .d (.v (.slice none 0 0)), .d (.v (.int .u64 0)), .d (.v (.int .i64 0)), .d (.v (.int .i64 0)), .d (.v (.int .i64 0)), .d (.v (.int .i64 0)), .d (.v (.int .i64 0))], .d (.v (.int .i64 11)), .d (.v (.int .i64 0)), .d (.v (.int .i64 n))]) (by rfl) (by rfl)
  have e11 : binR GWorld.zero 11 0 n = (negM n, 0) := by
    unfold binR subM negM
    simp [wrap_wrap, show wrapM 0 = 0 by decide]
  rw [e11] at hb
  unfold pr2 at hb
  have h64 : inR .i64 (1 - tru (decide (wrapM n = 0))) := by rw [inR_i64]; unfold tru; split <;> omega
  unfold knwM notM
  refine Pure.run Tryz.func194 rfl (by simp [Tryz.f194]) ?_; simp [-cB, Tryz.f194]
  by_cases h9 : op = 9
  · simp [-cB, h9]
    refine AOps.pureC rfl (hb) rfl rfl (by simp) rfl ?_
    simp [-cB]
  by_cases h10 : op = 10
  · simp [-cB, h10]
    refine AOps.pureC rfl (hq) rfl rfl (by simp) rfl ?_
    simp [-cB]
  by_cases h11 : op = 11
  · simp [-cB, h11]
    refine AOps.pureC rfl (hq) rfl rfl (by simp) rfl ?_
    simp [-cB, h64]
  simp [h9, h10, h11]
end Go.Ab

namespace Go.Ab
open Go.Proofs
set_option maxHeartbeats 4000000
set_option maxRecDepth 20000
section
variable {P : Program} {n : Nat} {s : St} {L : Heap}
theorem OpT.capNil {o : Oper} {ρa : Operand → V} {t e : TypeId} {k : Nat} {x : Operand} (hop : o.op = .call { callee := .builtin .cap, args := #[x], argTypes := #[t] }) (ht : tyE P t = some (e, k)) (hx : ρa x = .d (.v (.slice none 0 0))) : OpT P o ρa L (.d (.v (.int .i64 0))) := by
  refine .of_Q fun fo m ρ w hi hr => ?_
  have h1 := hr x (by rw [hop]; simp [Op.operands, Call.operands])
  rw [hx] at h1
  refine ⟨.int .i64 0, ?_, .d _ _ (.v _ rfl)⟩
  simp [execOp, hop, h1.v_inv, resolve, invoke, builtin, Builtin.cap_, (tyE_spec ht w).1, goInt]
theorem zc_get {z : Array Value} {N k q : Nat} (hz : z.size = k) (hk : 0 < k) (hq : q < N * k) : (Builtin.zeroCells z N)[q]? = z[q % k]? := by
  subst hz
  have : q % z.size < z.size := Nat.mod_lt _ hk
  simp [Builtin.zeroCells, hq, this]
theorem OpT.cutNil {o : Oper} {ρa : Operand → V} {t e : TypeId} {k : Nat} {x y : Operand} (hop : o.op = .slice t x none (some y) none) (ht : tyE P t = some (e, k)) (hx : ρa x = .d (.v (.slice none 0 0))) (hy : ρa y = .d (.v (.int .i64 0))) : OpT P o ρa L (.d (.v (.slice none 0 0))) := by
  refine .of_Q fun fo m ρ w hi hr => ?_
  have h1 := hr x (by rw [hop]; simp [Op.operands])
  have h2 := hr y (by rw [hop]; simp [Op.operands])
  rw [hx] at h1
  rw [hy] at h2
  refine ⟨.slice none 0 0, ?_, .d _ _ (.v _ rfl)⟩
  have ht1 := (tyE_spec ht w).1
  have ht2 := (tyE_spec ht w).2
  simp only [execOp, hop, Instr.sliceAt, Instr.slice, h1.v_inv, h2.v_inv, Sem.run_bind, ht1, ht2, Result.andThen_ok, Option.map_none, Option.map_some]
  simp [Instr.sliceBounds, Instr.sliceBound, asIntOf, ht2]
theorem growZL {dst : Option Tmp} {t tn : TypeId} {so no : Operand} {ty : TypeId} {pos : String} {after : Array Edge} {guard : Option (Nat × Bool)} {h k by_ N : Nat} {e : TypeId} {z : List Value} {kq kn : IntKind}
    (ht : tySl P t = some (e, k, by_, z)) (htn : P.underlying tn = some (.int kn)) (hs : s.ev so = .d (.v (.slice none 0 0))) (hc : s.ev no = .d (.v (.int kq N))) (hk : 0 < k) (hn : h ∉ keys s.L) (h0 : 0 < N) (hb : N ≤ 1000000000000 ∧ N * by_ ≤ 140737488355328) :
    OpL P n ⟨dst, .call { callee := .builtin .append, args := #[so, no], argTypes := #[t, tn] }, ty, pos, after, guard⟩ s (fun x s' => x = .rv h ∧ s' = { s with L := (h, .row e k (List.replicate N (z.map fun x => .d (.v x)))) :: s.L }) := by
  intro fo m a w g
  obtain ⟨i, zv, hu, hi, hz, hsize, hbytes, hzl, hzs, hone⟩ := tySl_spec ht
  have hes := eval_rel g so
  have hec := eval_rel g no
  rw [hs] at hes
  rw [hc] at hec
  have hrun := Lib.run_append_nil_zeros (P := P) w t tn ty e i zv kq kn hu htn hi hz N h0 (by omega) (by omega) (by rw [hbytes]; omega)
  have hge := grownCap_ge w N 0 e
  have hcm := grownCap_le_maxLen w N 0 e (by simp only [maxLen]; omega)
  generalize grownCap w N 0 e = cap at *
  obtain ⟨C, hC⟩ : ∃ C, C = Builtin.zeroCells zv.cells N ++ Builtin.zeroCells zv.cells (cap - N) := ⟨_, rfl⟩
  rw [← hC] at hrun
  have hx : ∀ b, blk (.slice (some ⟨w.heap.size, 0, none⟩) N cap) b → w.heap.size ≤ b := by intro b hb; simp [blk, blk1] at hb; omega
  have hgr : Grows w (w.drew.alloc (.cells C e)) := by
    have := Grows.alloc w.drew (.cells C e)
    exact ⟨this.os, this.tape, this.output, this.size, this.block⟩
  have hsz : C.size = cap * k := by
    rw [hC, Array.size_append, size_zeroCells, size_zeroCells, hzs, ← Nat.add_mul, Nat.add_sub_cancel' hge]
  obtain ⟨g', st⟩ := g.new hgr hn (x := .slice (some ⟨w.heap.size, 0, none⟩) N cap)
    (r := .row e k (List.replicate N (z.map fun x => .d (.v x)))) hx (by
      refine .inr ⟨w.heap.size, 0, cap, C, by simp, heap_alloc_new w.drew _, by simp; omega, hcm, by omega, ?_, ?_, ?_⟩
      · intro q x hq
        have := List.mem_of_getElem? hq
        rw [List.mem_replicate] at this
        rw [this.2]; simp [← hzl, hzs]
      · intro j u hu'
        rw [hC, Array.getElem?_append] at hu'
        have : ∃ p : Nat, zv.cells[p]? = some u := by
          split at hu'
          · exact zeroCells_get hu'
          · exact zeroCells_get hu'
        obtain ⟨p, hp⟩ := this
        exact hone u (by rw [← hzl]; exact List.mem_of_getElem? (by rw [Array.getElem?_toList]; exact hp))
      · intro p q x y u hx' hy hu'
        have hp := (List.getElem?_eq_some_iff.1 hx').1
        simp at hp
        have := List.mem_of_getElem? hx'
        rw [List.mem_replicate] at this
        obtain ⟨_, rfl⟩ := this
        have hq : q < k := by have := (List.getElem?_eq_some_iff.1 hy).1; simpa [← hzl, hzs] using this
        have hpc : (p + 1) * k ≤ N * k := Nat.mul_le_mul_right _ (by omega)
        rw [Nat.add_mul, Nat.one_mul] at hpc
        rw [Nat.zero_add, hC, Array.getElem?_append_left (by rw [size_zeroCells, hzs]; omega), zc_get hzs hk (by omega), Nat.mul_comm p k, Nat.mul_add_mod, Nat.mod_eq_of_lt hq] at hu'
        exact rel_vals hone q u y (by rw [← hzl, Array.getElem?_toList]; exact hu') hy)
  refine ⟨_, _, _, _, _, _, ?_, .inl rfl, ⟨rfl, rfl⟩, .rv h _ (mset_same _ _) rfl, g', st⟩
  rw [← hes.v_inv, ← hec.v_inv] at hrun
  simp [execOp, resolve, invoke, builtin, hrun]
end
theorem growI_ok (h : Nat) (N : Nat) (hn : N ≤ 1000000000000) : ACalls Tryz.prog 208 [.d (.v (.slice none 0 0)), .d (.v (.int .i64 N))] [] (fun r L => r = .ret (.rv h) ∧ L = [(h, .row 116 2 (dd []))]) := by
  refine ACalls.rowR h ?_
  have h0 : ¬ (N : Int) < 0 := by omega
  have h64 : inR .i64 (N : Int) := by rw [inR_i64]; omega
  refine ACalls.run Tryz.func208 rfl (by simp [Tryz.f208]) ?_; simp [Tryz.f208]
  refine ⟨fun h => absurd h h0, ?_⟩
  refine AOps.quietT rfl (by simp) (OpT.capNil rfl rfl (by simp)) (runC_sound _ _ [] rfl fun bs => ?_)
  have e0 : inR .i64 0 := by rw [inR_i64]; omega
  by_cases hN : 0 < N
  · simp [-cB, e0, h64, hN]
    refine AOps.quietT rfl (by simp) (OpT.capNil rfl rfl (by simp)) (runC_sound _ _ [] rfl fun bs => ?_)
    simp [-cB]
    refine AOps.quietT rfl (by simp) (OpT.cutNil rfl rfl (by simp) (by simp)) (runC_sound _ _ [] rfl fun bs => ?_)
    simp [-cB]
    refine AOps.loud rfl (by simp) (growZL (h := 22) (N := N) (k := 2) (by_ := 16) (kq := .i64) (kn := .i64) tySl_120 (by kernel_rfl) (by simp) (by simp) (by decide) (by simp) hN (by omega)) ?_
    rintro x s' ⟨rfl, rfl⟩
    refine runC_sound _ _ [] rfl fun bs => ?_
    simp [-cB]
  · simp [-cB, e0, h64, hN]
def sumL (ll : List (List GIns)) : Nat := (ll.map List.length).sum
theorem concatI_ok (ll : List (List GIns)) (hl : ll.length ≤ 1000) (hs : sumL ll ≤ 1000000000000) : Pure Tryz.prog 195 [.d (.sl (encSl (List.map GIns.enc) ll))] (.d (.sl ((ll.flatten).map GIns.enc))) := by
  refine Pure.run Tryz.func195 rfl (by simp [Tryz.f195]) ?_; simp [-cB, Tryz.f195]
  refine AWP.loopL [0, 3, 9, 10, 11] ll (fun pre => [(3, .d (.v (.int .i64 (sumL pre)))), (11, .d (.v (.int .i64 pre.length)))]) (fun _ => []) (fun _ => True) (by rfl) (by omega) (by simp [sumL]) ?_ ?_
  · rintro pre x post hsp - hlt hge a4
    have hsx : sumL (pre ++ [x]) = sumL pre + x.length := by simp [sumL]
    have hle : sumL pre + x.length ≤ sumL ll := by rw [hsp]; simp [sumL]
    clear hsp
    have h64 : inR .i64 ((sumL pre : Int) + x.length) := by rw [inR_i64]; omega
    have h0 : ¬ ((sumL pre : Int) + x.length) < 0 := by omega
    simp [-cB, *]
  · intro _
    simp [-cB]
    refine AOps.effD [] rfl ((growI_ok 5101 (sumL ll) hs)) (by simp) rfl (by simp) rfl (by kernel_rfl) (by simp) (by simp) (by simp) (by simp) (by simp) ?_
    simp [-cB]
    refine AWP.loopL [6, 25, 26, 27] ll (fun pre => [(6, .rv 5101), (27, .d (.v (.int .i64 pre.length)))]) (fun pre => [(5101, .row 116 2 (dd ((pre.flatten).map GIns.enc)))]) (fun _ => True) (by rfl) (by omega) (by simp) ?_ ?_
    · rintro pre x post hsp - hlt hge a4
      have hle : pre.flatten.length + x.length ≤ sumL ll := by rw [hsp]; simp [sumL, List.length_flatten]
      clear hsp
      simp [-cB, *]
      have e : pre.map (List.length ∘ List.map GIns.enc) = pre.map List.length := by simp [Function.comp_def]
      rw [e]
      rw [List.length_flatten] at hle
      omega
    · intro _
      simp [-cB]
end Go.Ab

namespace Go.Ab
open Go.Proofs
set_option maxHeartbeats 4000000
set_option maxRecDepth 20000
theorem yop_slice {P : Program} {ops : Array Oper} {o : Oper} {s : St} {t : TypeId} {xo : Operand} {lo hi : Option Operand} {x : V} {c : Prop} (hop : o.op = .slice t xo lo hi none) (hg : o.guard = none) (h : sliceV P t (s.ev xo) (lo.map s.ev) (hi.map s.ev) = some (x, c)) (hc : c) : YOp P ops o s x :=
  yop_plain hg (.of_Q fun fo m ρ w _ hr => by
    obtain ⟨v, h1, h2⟩ := sliceV_sound (ρ := ρ) (w := w) h hc (hr xo (by rw [hop]; simp [Op.operands])) (fun y hy => hr y (by rw [hop, hy]; simp [Op.operands])) (fun y hy => hr y (by rw [hop, hy]; simp [Op.operands]))
    exact ⟨v, by simp [execOp, hop, h1], h2⟩)
theorem pWith_ok (l x : List GIns) (hl : l.length ≤ 100000000000) (hx : x.length ≤ 1000) (i n : Nat) (h : i + n ≤ l.length) : Pure Tryz.prog 167 [.d (.sl (l.map GIns.enc)), .d (.v (.int .i64 i)), .d (.v (.int .i64 n)), .d (.sl (x.map GIns.enc))] (.d (.sl ((swapM l i n x).map GIns.enc))) := by
  have hc := concatI_ok [l.take i, x, l.drop (i + n)] (by simp) (by simp [sumL]; omega)
  have h64 : inR .i64 ((i : Int) + n) := by rw [inR_i64]; omega
  refine Pure.run Tryz.func167 rfl (by simp [Tryz.f167]) ?_; simp [-cB, Tryz.f167]
  refine AWP.regionT [some (0, 0), some (0, 0), some (0, 0), some (0, 0), some (0, 0), some (0, 0), some (0, 0), some (0, 0), some (0, 0), some (0, 0), some (0, 0), some (0, 0)] [11, 17, 18] [.d (.sl ((l.take i).map GIns.enc)), .d (.sl ((l.drop (i + n)).map GIns.enc)), .d (.sl (encSl (List.map GIns.enc) [l.take i, x, l.drop (i + n)])), .d (.sl ((swapM l i n x).map GIns.enc))] Tryz.mixed (by kernel_rfl) ?_
  simp [-cB, h64]
  have e1 : ((i : Int) + n).toNat = i + n := by omega
  have e3 : List.take l.length (l.map GIns.enc) = l.map GIns.enc := List.take_of_length_le (by simp)
  refine ⟨yop_slice rfl rfl (by simp [sliceV, bndV]; rfl) (by first | omega | (simp; omega)), yop_slice rfl rfl (by simp [sliceV, bndV, e1, e3]; rfl) (by first | omega | (simp; omega)), yop_build tySl_196 (by decide) (by decide) rfl (by simp) (by simp [dd, encSl]) rfl (by simp [encSl]), ?_⟩
  have e : [l.take i, x, l.drop (i + n)].flatten = swapM l i n x := by simp [swapM]
  rw [e] at hc
  exact hc.ok _
theorem pPush_ok (l : List GIns) (hl : l.length ≤ 100000000000) (i n : Nat) (k : Int) (h : i + n ≤ l.length) : Pure Tryz.prog 193 [.d (.sl (l.map GIns.enc)), .d (.v (.int .i64 i)), .d (.v (.int .i64 n)), .d (.v (.int .i64 k))] (.tup [.d (.sl ((swapM l i n [⟨1, k⟩]).map GIns.enc)), .d (.v (.bool true))]) := by
  have hq := pWith_ok l [⟨1, k⟩] hl (by simp) i n h
  refine Pure.run Tryz.func193 rfl (by simp [Tryz.f193]) ?_; simp [-cB, Tryz.f193]
  refine AOps.weaken (Wk.freeze 15 (ys := [GIns.enc ⟨1, k⟩]) rfl) ?_
  simp [-cB]
  refine AOps.pureC rfl (hq) rfl rfl (by simp) rfl ?_
  simp [-cB]
theorem wrap_tru' (b : Bool) : wrapM (tru b) = tru b := by cases b <;> decide
theorem wr_ite {p : Prop} [Decidable p] {a b : Int × Int} (ha : wrapM a.1 = a.1) (hb : wrapM b.1 = b.1) : wrapM (if p then a else b).1 = (if p then a else b).1 := by
  split
  · exact ha
  · exact hb
theorem binR_wrapped (op a b : Int) (h9 : op ≠ 9) : wrapM (binR GWorld.zero op a b).1 = (binR GWorld.zero op a b).1 := by
  unfold binR addM subM mulM divM modM
  rw [if_neg h9]
  repeat' refine wr_ite ?_ ?_
  all_goals first
    | exact wrap_tru' _
    | exact wrap_wrap _
    | decide
theorem opA_dp (l : List GIns) (i k : Nat) : opA (l.drop i) k = opA l (i + k) := by unfold opA; rw [List.getElem?_drop]
theorem argA_dp (l : List GIns) (i k : Nat) : argA (l.drop i) k = argA l (i + k) := by unfold argA; rw [List.getElem?_drop]
def offR (l : List GIns) (i : Nat) (b : Option (Nat × Nat × List GIns)) (x : List GIns) : Prop := ∀ y, b = some y → x = swapM l (i + y.1) y.2.1 y.2.2
theorem noR (l : List GIns) (i : Nat) (x : List GIns) : offR l i none x := fun y hy => by cases hy
theorem someR (l : List GIns) (i : Nat) (y : Nat × Nat × List GIns) : offR l i (some y) (swapM l (i + y.1) y.2.1 y.2.2) := fun z hz => by cases hz; rfl
theorem pReckoned_ok (l : List GIns) (hl : l.length ≤ 100000000000) (i : Nat) (hi : i < l.length) : ∃ x, offR l i (wayR l (l.drop i) 0) x ∧ Pure Tryz.prog 165 [.d (.sl (l.map GIns.enc)), .d (.v (.int .i64 i))] (.tup [.d (.sl (x.map GIns.enc)), .d (.v (.bool (wayR l (l.drop i) 0).isSome))]) := by
  have hq := pIs_ok l (by omega) i (by omega) [1, 1, 8] (by simp)
  rw [isO3 _ (by decide) (by decide) (by decide)] at hq
  have hw0 : wayR l (l.drop i) 0 = if opA (l.drop i) 0 = 1 ∧ opA (l.drop i) 1 = 1 ∧ opA (l.drop i) 2 = 8 ∧ argA (l.drop i) 2 ≠ 9 ∧ (binR GWorld.zero (argA (l.drop i) 2) (argA (l.drop i) 0) (argA (l.drop i) 1)).2 = 0 then some (0, 3, pushI (binR GWorld.zero (argA (l.drop i) 2) (argA (l.drop i) 0) (argA (l.drop i) 1)).1) else none := rfl
  rw [hw0]
  have c1 : ((i : Int) + 1).toNat = i + 1 := by omega
  have c2 : ((i : Int) + 2).toNat = i + 2 := by omega
  have i1 : inR .i64 ((i : Int) + 1) := by rw [inR_i64]; omega
  have i2 : inR .i64 ((i : Int) + 2) := by rw [inR_i64]; omega
  have go : ∀ {o : Option (Nat × Nat × List GIns)}, o = none → (Pure Tryz.prog 165 [.d (.sl (l.map GIns.enc)), .d (.v (.int .i64 i))] (.tup [.d (.sl []), .d (.v (.bool false))])) → ∃ x, offR l i o x ∧ Pure Tryz.prog 165 [.d (.sl (l.map GIns.enc)), .d (.v (.int .i64 i))] (.tup [.d (.sl (x.map GIns.enc)), .d (.v (.bool o.isSome))]) := fun {o} h k => by
    subst h; exact ⟨[], noR l i _, k⟩
  by_cases h3 : opA (l.drop i) 0 = 1 ∧ opA (l.drop i) 1 = 1 ∧ opA (l.drop i) 2 = 8
  · rw [decide_eq_true h3] at hq
    have l2 : i + 2 < l.length := opA_lt (l := l) (k := i) (j := 2) (by rw [h3.2.2]; decide)
    have b0 : argA (l.drop i) 0 = (l[i]'(by omega)).Arg := by rw [argA_dp]; simp [argA, List.getElem?_eq_getElem (show i < l.length by omega)]
    have b1 : argA (l.drop i) 1 = (l[i + 1]'(by omega)).Arg := by rw [argA_dp]; simp [argA, List.getElem?_eq_getElem (show i + 1 < l.length by omega)]
    have b2 : argA (l.drop i) 2 = (l[i + 2]'l2).Arg := by rw [argA_dp]; simp [argA, List.getElem?_eq_getElem l2]
    have g0 := List.getElem?_eq_getElem (show i < l.length by omega)
    have g1 := List.getElem?_eq_getElem (show i + 1 < l.length by omega)
    have g2 := List.getElem?_eq_getElem l2
    generalize argA (l.drop i) 0 = A0 at *
    generalize argA (l.drop i) 1 = A1 at *
    generalize argA (l.drop i) 2 = A2 at *
    by_cases h9 : A2 = 9
    · refine go (if_neg fun h => h.2.2.2.1 h9) ?_
      refine Pure.run Tryz.func165 rfl (by simp [Tryz.f165]) ?_; simp [-cB, Tryz.f165]
      refine AOps.weaken (Wk.freeze 10 (ys := encI [1, 1, 8]) rfl) ?_
      simp [-cB]
      refine AOps.pureC rfl (hq) rfl rfl (by simp) rfl ?_
      simp [-cB, c2, g2, ← b2, h9, i2]
      omega
    · have hw := binR_wrapped A2 A0 A1 h9
      have hb := (bin_ok GWorld.zero A2 (fun h => absurd h h9) A0 A1).deep 0 (args := [.agg [.d (.v (.slice none 0 0)), .d (.v (.slice none 0 0)), .d (.v (.slice none 0 0)), .d (.v (.slice none 0 0)), .d (.v (.slice none 0 0)), .d (.v (.slice none 0 0)), .d (.v (.slice none 0 0)), .d (.v (.int .u64 0)), .d (.v (.int .i64 0)), .d (.v (.int .i64 0)), .d (.v (.int .i64 0)), .d (.v (.int .i64 0)), .d (.v (.int .i64 0))], .d (.v (.int .i64 A2)), .d (.v (.int .i64 A0)), .d (.v (.int .i64 A1))]) (by rfl) (by rfl)
      generalize binR GWorld.zero A2 A0 A1 = p at *
      obtain ⟨v, e⟩ := p
      unfold pr2 at hb
      have hb' := fun L => hb.ok L
      have hq' := fun L => hq.ok L
      have z1 : (0 : Int) ≤ i + 1 := by omega
      have z2 : (0 : Int) ≤ i + 2 := by omega
      have hi1 : i + 1 < l.length := by omega
      by_cases he : e = 0
      · have hp := pPush_ok l hl i 3 v (by omega)
        rw [if_pos ⟨h3.1, h3.2.1, h3.2.2, h9, he⟩]
        refine ⟨_, someR l i _, ?_⟩
        have ev : pushI (v, e).1 = [⟨1, v⟩] := by unfold pushI; rw [show wrapM (v, e).1 = v from hw]
        rw [ev]
        subst he
        refine Pure.run Tryz.func165 rfl (by simp [Tryz.f165]) ?_; simp [-cB, Tryz.f165]
        refine AOps.weaken (Wk.freeze 10 (ys := encI [1, 1, 8]) rfl) ?_
        simp [-cB]
        refine AOps.pureC rfl (hq) rfl rfl (by simp) rfl ?_
        simp [-cB, c2, g2, ← b2, h9, i2, z2, l2]
        refine AWP.regionD [.tup [.d (.v (.int .i64 v)), .d (.v (.int .i64 0))]] Tryz.mixed (by kernel_rfl) (by rfl) ?_
        simp [-cB, c1, c2, g0, g1, g2, ← b0, ← b1, ← b2, i1, i2, z1, z2, l2, hi, hi1]
        refine ⟨hb.ok _, ?_⟩
        refine AOps.pureC rfl (hp) rfl rfl (by simp) rfl ?_
        simp [-cB]
      · refine go (if_neg fun h => he h.2.2.2.2) ?_
        refine Pure.run Tryz.func165 rfl (by simp [Tryz.f165]) ?_; simp [-cB, Tryz.f165]
        refine AOps.weaken (Wk.freeze 10 (ys := encI [1, 1, 8]) rfl) ?_
        simp [-cB]
        refine AOps.pureC rfl (hq) rfl rfl (by simp) rfl ?_
        simp [-cB, c2, g2, ← b2, h9, i2, z2, l2]
        refine AWP.regionD [.tup [.d (.v (.int .i64 v)), .d (.v (.int .i64 e))]] Tryz.mixed (by kernel_rfl) (by rfl) ?_
        have he' : (e != 0) = true := by simpa using he
        simp [-cB, c1, c2, g0, g1, g2, ← b0, ← b1, ← b2, i1, i2, z1, z2, l2, hi, hi1, hb', he, he']
  · rw [decide_eq_false h3] at hq
    refine go (if_neg fun h => h3 ⟨h.1, h.2.1, h.2.2.1⟩) ?_
    refine Pure.run Tryz.func165 rfl (by simp [Tryz.f165]) ?_; simp [-cB, Tryz.f165]
    refine AOps.weaken (Wk.freeze 10 (ys := encI [1, 1, 8]) rfl) ?_
    simp [-cB]
    refine AOps.pureC rfl (hq) rfl rfl (by simp) rfl ?_
    simp [-cB]
theorem pTurned_ok (l : List GIns) (hl : l.length ≤ 100000000000) (i : Nat) (hi : i < l.length) : ∃ x, offR l i (wayR l (l.drop i) 1) x ∧ Pure Tryz.prog 166 [.d (.sl (l.map GIns.enc)), .d (.v (.int .i64 i))] (.tup [.d (.sl (x.map GIns.enc)), .d (.v (.bool (wayR l (l.drop i) 1).isSome))]) := by
  have hq := pIs_ok l (by omega) i (by omega) [1] (by simp)
  rw [isO1 _ (by decide)] at hq
  have hw0 : wayR l (l.drop i) 1 = if opA (l.drop i) 0 ≠ 1 then none else (knwM (opA (l.drop i) 1) (argA (l.drop i) 0)).map fun v => (0, 2, pushI v) := by
    show (if opA (l.drop i) 0 ≠ 1 then none else _) = _
    unfold knwM
    split
    · rfl
    · repeat' split
      all_goals rfl
  rw [hw0]
  have c1 : ((i : Int) + 1).toNat = i + 1 := by omega
  have i1 : inR .i64 ((i : Int) + 1) := by rw [inR_i64]; omega
  have z1 : (0 : Int) ≤ i + 1 := by omega
  have go : ∀ {o : Option (Nat × Nat × List GIns)}, o = none → (Pure Tryz.prog 166 [.d (.sl (l.map GIns.enc)), .d (.v (.int .i64 i))] (.tup [.d (.sl []), .d (.v (.bool false))])) → ∃ x, offR l i o x ∧ Pure Tryz.prog 166 [.d (.sl (l.map GIns.enc)), .d (.v (.int .i64 i))] (.tup [.d (.sl (x.map GIns.enc)), .d (.v (.bool o.isSome))]) := fun {o} h k => by
    subst h; exact ⟨[], noR l i _, k⟩
  by_cases h1 : opA (l.drop i) 0 = 1
  · rw [if_neg (by simp [h1])]
    rw [decide_eq_true h1] at hq
    by_cases hs : i + 1 < l.length
    · have hs' : ¬ (l.length : Int) ≤ i + 1 := by omega
      have b0 : argA (l.drop i) 0 = (l[i]'(by omega)).Arg := by rw [argA_dp]; simp [argA, List.getElem?_eq_getElem (show i < l.length by omega)]
      have b1 : opA (l.drop i) 1 = (l[i + 1]'hs).Op := by rw [opA_dp]; simp [opA, List.getElem?_eq_getElem hs]
      have g0 := List.getElem?_eq_getElem (show i < l.length by omega)
      have g1 := List.getElem?_eq_getElem hs
      have hk := pKnown_ok (opA (l.drop i) 1) (argA (l.drop i) 0)
      have hv : ∀ v, knwM (opA (l.drop i) 1) (argA (l.drop i) 0) = some v → wrapM v = v := fun v hv => by
        unfold knwM negM notM at hv
        repeat' split at hv
        all_goals first | (cases hv; done) | skip
        all_goals
          cases hv
          first
            | exact wrap_wrap _
            | exact wrap_tru' _
            | (unfold tru; split <;> decide)
      generalize opA (l.drop i) 1 = O1 at *
      generalize argA (l.drop i) 0 = A0 at *
      cases hkn : knwM O1 A0 with
      | none =>
        rw [hkn] at hk
        refine go rfl ?_
        refine Pure.run Tryz.func166 rfl (by simp [Tryz.f166]) ?_; simp [-cB, Tryz.f166]
        refine AOps.weaken (Wk.freeze 10 (ys := encI [1]) rfl) ?_
        simp [-cB]
        refine AOps.pureC rfl (hq) rfl rfl (by simp) rfl ?_
        simp [-cB, i1, hs']
        refine AWP.regionD [.tup [.d (.v (.int .i64 0)), .d (.v (.bool false))]] Tryz.mixed (by kernel_rfl) (by rfl) ?_
        simp [-cB, c1, g0, g1, ← b0, ← b1, i1, z1, hs, hi]
        exact hk.ok _
      | some v =>
        rw [hkn] at hk
        have hp := pPush_ok l hl i 2 v (by omega)
        refine ⟨_, someR l i _, ?_⟩
        have ev : pushI v = [⟨1, v⟩] := by unfold pushI; rw [hv v hkn]
        simp only [ev]
        refine Pure.run Tryz.func166 rfl (by simp [Tryz.f166]) ?_; simp [-cB, Tryz.f166]
        refine AOps.weaken (Wk.freeze 10 (ys := encI [1]) rfl) ?_
        simp [-cB]
        refine AOps.pureC rfl (hq) rfl rfl (by simp) rfl ?_
        simp [-cB, i1, hs']
        refine AWP.regionD [.tup [.d (.v (.int .i64 v)), .d (.v (.bool true))]] Tryz.mixed (by kernel_rfl) (by rfl) ?_
        simp [-cB, c1, g0, g1, ← b0, ← b1, i1, z1, hs, hi]
        refine ⟨hk.ok _, ?_⟩
        refine AOps.pureC rfl (hp) rfl rfl (by simp) rfl ?_
        simp [-cB]
    · have hs' : (l.length : Int) ≤ i + 1 := by omega
      have ho : opA (l.drop i) 1 = 0 := by rw [opA_dp]; simp [opA, List.getElem?_eq_none (show l.length ≤ i + 1 by omega)]
      refine go (by rw [ho]; rfl) ?_
      refine Pure.run Tryz.func166 rfl (by simp [Tryz.f166]) ?_; simp [-cB, Tryz.f166]
      refine AOps.weaken (Wk.freeze 10 (ys := encI [1]) rfl) ?_
      simp [-cB]
      refine AOps.pureC rfl (hq) rfl rfl (by simp) rfl ?_
      simp [-cB, i1, hs']
  · rw [decide_eq_false h1] at hq
    refine go (if_pos h1) ?_
    refine Pure.run Tryz.func166 rfl (by simp [Tryz.f166]) ?_; simp [-cB, Tryz.f166]
    refine AOps.weaken (Wk.freeze 10 (ys := encI [1]) rfl) ?_
    simp [-cB]
    refine AOps.pureC rfl (hq) rfl rfl (by simp) rfl ?_
    simp [-cB]
end Go.Ab

namespace Go.Ab
open Go.Proofs
set_option maxHeartbeats 4000000
set_option maxRecDepth 20000
theorem pWith0_ok (l : List GIns) (hl : l.length ≤ 100000000000) (i n : Nat) (h : i + n ≤ l.length) : Pure Tryz.prog 167 [.d (.sl (l.map GIns.enc)), .d (.v (.int .i64 i)), .d (.v (.int .i64 n)), .d (.v (.slice none 0 0))] (.d (.sl ((swapM l i n []).map GIns.enc))) :=
  (pWith_ok l [] hl (by simp) i n h).deep 0 (args := [.d (.sl (l.map GIns.enc)), .d (.v (.int .i64 i)), .d (.v (.int .i64 n)), .d (.v (.slice none 0 0))]) (by rfl) (by rfl)
theorem deadN_spec : ∀ r : List GIns, (∀ k, k < deadN r → ∃ x, r[k]? = some x ∧ x.Op ≠ 38) ∧ (∀ x, r[deadN r]? = some x → x.Op = 38) ∧ deadN r ≤ r.length
  | [] => ⟨fun k hk => by simp [deadN] at hk, fun x hx => by simp at hx, Nat.le_refl _⟩
  | i :: r => by
    obtain ⟨h1, h2, h3⟩ := deadN_spec r
    by_cases hi : i.Op = 38
    · have e : deadN (i :: r) = 0 := by unfold deadN isLab; simp [hi]
      rw [e]
      exact ⟨fun k hk => by omega, fun x hx => by simp at hx; rw [← hx]; exact hi, Nat.zero_le _⟩
    · have e : deadN (i :: r) = deadN r + 1 := by unfold deadN isLab; simp [hi]
      rw [e]
      refine ⟨fun k hk => ?_, fun x hx => h2 x (by simpa using hx), by simp; omega⟩
      cases k with
      | zero => exact ⟨i, rfl, hi⟩
      | succ k => exact h1 k (by omega)
theorem pNever_ok (l : List GIns) (hl : l.length ≤ 100000000000) (i : Nat) (hi : i < l.length) : ∃ x, offR l i (wayR l (l.drop i) 6) x ∧ Pure Tryz.prog 170 [.d (.sl (l.map GIns.enc)), .d (.v (.int .i64 i))] (.tup [.d (.sl (x.map GIns.enc)), .d (.v (.bool (wayR l (l.drop i) 6).isSome))]) := by
  have g0 := List.getElem?_eq_getElem (show i < l.length by omega)
  have b0 : opA (l.drop i) 0 = (l[i]'(by omega)).Op := by rw [opA_dp]; simp [opA, g0]
  have et : (l.drop i).tail = l.drop (i + 1) := by rw [List.tail_drop]
  have hw0 : wayR l (l.drop i) 6 = if endsOp (opA (l.drop i) 0) ∧ 0 < deadN (l.drop (i + 1)) then some (1, deadN (l.drop (i + 1)), []) else none := by
    show (if endsOp (opA (l.drop i) 0) ∧ 0 < deadN (l.drop i).tail then _ else _) = _
    rw [et]
  rw [hw0, b0]
  obtain ⟨hin, hend, hle⟩ := deadN_spec (l.drop (i + 1))
  rw [List.length_drop] at hle
  simp only [List.getElem?_drop] at hin hend
  generalize deadN (l.drop (i + 1)) = N at *
  have hE := pEnds_ok (l[i]'(by omega))
  have hp := pWith0_ok l hl (i + 1) N (by omega)
  simp only [Int.natCast_add, Int.natCast_one] at hp
  have key : ∀ (R : V), V.on [] R = true → (decide (endsOp (l[i]'(by omega)).Op) = false ∨ N = 0 → R = .tup [.d (.sl []), .d (.v (.bool false))]) → (decide (endsOp (l[i]'(by omega)).Op) = true → 0 < N → R = .tup [.d (.sl ((swapM l (i + 1) N []).map GIns.enc)), .d (.v (.bool true))]) →
      Pure Tryz.prog 170 [.d (.sl (l.map GIns.enc)), .d (.v (.int .i64 i))] R := fun R hRon hR0 hR1 => by
    generalize decide (endsOp (l[i]'(by omega)).Op) = b at *
    have i1 : inR .i64 ((i : Int) + 1) := by rw [inR_i64]; omega
    refine Pure.run Tryz.func170 rfl (by simp [Tryz.f170, hRon]) ?_; simp [-cB, Tryz.f170, hRon]
    simp [-cB, i1]
    refine AWP.loopS [0, 1, 6] N (fun k => [(6, .d (.v (.int .i64 ((i : Int) + 1 + k))))]) (fun _ => []) (fun _ => True) (by rfl) (by simp) ?_
    intro k hk _
    have hki : ((i : Int) + 1 + k).toNat = i + 1 + k := by omega
    rcases Nat.lt_or_eq_of_le hk with hlt | rfl
    · obtain ⟨x, hx, hx2⟩ := hin k hlt
      have h64 : inR .i64 ((i : Int) + 1 + k + 1) := by rw [inR_i64]; omega
      have hlt' : (i : Int) + 1 + k < l.length := by omega
      have hx3 : (x.Op != 38) = true := by simpa using hx2
      simp [-cB, hlt', hki, hx, hx3, h64]
      exact ⟨⟨by omega, by omega⟩, hlt, by omega⟩
    · have e1 : (i : Int) + 1 + k - i = 1 + k := by omega
      have e2 : (1 : Int) + k - 1 = k := by omega
      have s1 : inR .i64 ((1 : Int) + k) := by rw [inR_i64]; omega
      have s2 : inR .i64 (k : Int) := by rw [inR_i64]; omega
      by_cases hlt' : (i : Int) + 1 + k < l.length
      · obtain ⟨x, hx⟩ : ∃ x, l[i + 1 + k]? = some x := ⟨_, List.getElem?_eq_getElem (by omega)⟩
        have hx3 : (x.Op != 38) = false := by simpa using hend x hx
        simp [-cB, hlt', hki, hx, hx3, g0]
        refine ⟨⟨by omega, by omega⟩, hi, ?_⟩
        refine AOps.pureC rfl (hE) rfl rfl (by simp) rfl ?_
        cases b with
        | false =>
          have hR := hR0 (.inl rfl)
          simp [-cB, hR]
        | true =>
          by_cases hk0 : k = 0
          · have hR := hR0 (.inr hk0)
            simp [-cB, hR, hk0, i1]
          · have hR := hR1 rfl (by omega)
            have hne : ¬ ((i : Int) + 1 + k = i + 1) := by omega
            simp [-cB, hR, hne, i1, e1, e2, s1, s2]
            refine AOps.pureC rfl (hp) rfl rfl (by simp) rfl ?_
            simp [-cB]
      · simp [-cB, hlt', g0]
        refine ⟨hi, ?_⟩
        refine AOps.pureC rfl (hE) rfl rfl (by simp) rfl ?_
        cases b with
        | false =>
          have hR := hR0 (.inl rfl)
          simp [-cB, hR]
        | true =>
          by_cases hk0 : k = 0
          · have hR := hR0 (.inr hk0)
            simp [-cB, hR, hk0, i1]
          · have hR := hR1 rfl (by omega)
            have hne : ¬ ((i : Int) + 1 + k = i + 1) := by omega
            simp [-cB, hR, hne, i1, e1, e2, s1, s2]
            refine AOps.pureC rfl (hp) rfl rfl (by simp) rfl ?_
            simp [-cB]
  by_cases hc : endsOp (l[i]'(by omega)).Op ∧ 0 < N
  · rw [if_pos hc]
    refine ⟨_, someR l i _, key _ rfl (fun h => ?_) (fun _ _ => rfl)⟩
    rcases h with h | h
    · simp [hc.1] at h
    · have := hc.2; omega
  · rw [if_neg hc]
    refine ⟨[], noR l i _, key _ rfl (fun _ => rfl) (fun h1 h2 => absurd ⟨by simpa using h1, h2⟩ hc)⟩
end Go.Ab

namespace Go.Ab
open Go.Proofs
set_option maxHeartbeats 4000000
set_option maxRecDepth 20000
def isLb (n : Int) (x : GIns) : Bool := decide (x.Op = 38) && decide (x.Arg = n)
theorem after_idx (n : Int) : ∀ l : List GIns, after l n = (l.findIdx? (isLb n)).map fun k => l.drop (k + 1)
  | [] => rfl
  | i :: l => by
    rw [after, List.findIdx?_cons, after_idx n l]
    by_cases h : i.Op = 38 ∧ i.Arg = n
    · rw [if_pos h, show isLb n i = true by unfold isLb; simp [h]]; rfl
    · rw [if_neg h, show isLb n i = false by unfold isLb; simp; exact fun a b => h ⟨a, b⟩]
      cases l.findIdx? (isLb n) <;> rfl
theorem pFar1_ok (l : List GIns) (i : Nat) (hi : i < l.length) (x : GIns) : Pure Tryz.prog 199 [.agg (x.enc.map .d), .rp [.sl (l.map GIns.enc)], .rp [.v (.int .i64 i)]] (.d (.v (.bool (isLb (argA (l.drop i) 0) x)))) := by
  have g0 := List.getElem?_eq_getElem hi
  have b0 : argA (l.drop i) 0 = (l[i]'hi).Arg := by rw [argA_dp]; simp [argA, g0]
  rw [b0]
  unfold isLb
  refine Pure.run Tryz.func199 rfl (by simp [Tryz.f199]) ?_; simp [-cB, Tryz.f199]
  intro bs
  refine AWP.regionD [] Tryz.mixed (by kernel_rfl) (by rfl) ?_
  simp [-cB, g0, hi]
theorem pFurther_ok (l : List GIns) (hl : l.length ≤ 100000000000) (i : Nat) (hi : i < l.length) : ∃ x, offR l i (wayR l (l.drop i) 8) x ∧ Pure Tryz.prog 174 [.d (.sl (l.map GIns.enc)), .d (.v (.int .i64 i))] (.tup [.d (.sl (x.map GIns.enc)), .d (.v (.bool (wayR l (l.drop i) 8).isSome))]) := by
  have g0 := List.getElem?_eq_getElem hi
  have b0 : argA (l.drop i) 0 = (l[i]'hi).Arg := by rw [argA_dp]; simp [argA, g0]
  have o0 : opA (l.drop i) 0 = (l[i]'hi).Op := by rw [opA_dp]; simp [opA, g0]
  have hx := idxI_ok l (by omega) 199 [.rp [.sl (l.map GIns.enc)], .rp [.v (.int .i64 i)]] rfl (isLb (argA (l.drop i) 0)) (fun x _ => pFar1_ok l i hi x)
  have hj := pJumps_ok (l[i]'hi)
  have hw0 : wayR l (l.drop i) 8 = if (l[i]'hi).Op = 24 ∨ (l[i]'hi).Op = 25 then (farM l (l.drop i)).map fun x => (0, 1, x) else none := by
    show (if opA (l.drop i) 0 = 24 ∨ opA (l.drop i) 0 = 25 then _ else _) = _
    rw [o0]
  rw [hw0]
  have key : ∀ (R : V), V.on [] R = true → ((if (l[i]'hi).Op = 24 ∨ (l[i]'hi).Op = 25 then (farM l (l.drop i)).map fun x => (0, 1, x) else none : Option (Nat × Nat × List GIns)) = none → R = .tup [.d (.sl []), .d (.v (.bool false))]) →
      (∀ x, (l[i]'hi).Op = 24 ∨ (l[i]'hi).Op = 25 → farM l (l.drop i) = some x → R = .tup [.d (.sl ((swapM l i 1 x).map GIns.enc)), .d (.v (.bool true))]) →
      Pure Tryz.prog 174 [.d (.sl (l.map GIns.enc)), .d (.v (.int .i64 i))] R := fun R hRon hR0 hR1 => by
    unfold farM at hR0 hR1
    rw [after_idx] at hR0 hR1
    rw [b0] at hx hR0 hR1
    rw [o0] at hR0 hR1
    refine Pure.run Tryz.func174 rfl (by simp [Tryz.f174, hRon]) ?_; simp [-cB, Tryz.f174, hRon]
    intro bs
    refine AOps.weaken (Wk.freezeB 2 (ds := [.sl (l.map GIns.enc)]) rfl) ?_
    simp [-cB]
    refine AOps.weaken (Wk.freezeB 3 (ds := [.v (.int .i64 i)]) rfl) ?_
    simp [-cB]
    refine AOps.pureC rfl (hx) rfl rfl (by simp) rfl ?_
    cases hf : l.findIdx? (isLb (l[i]'hi).Arg) with
    | none =>
      have e : idxP (isLb (l[i]'hi).Arg) l = -1 := by unfold idxP; rw [hf]
      have hR := hR0 (by rw [hf]; split <;> rfl)
      rw [e]
      simp [-cB, g0, hi]
      refine AOps.pureC rfl (hj) rfl rfl (by simp) rfl ?_
      by_cases hjm : (l[i]'hi).Op = 24 ∨ (l[i]'hi).Op = 25
      · have hjb : (decide ((l[i]'hi).Op = 24) || decide ((l[i]'hi).Op = 25)) = true := by simpa using hjm
        simp [-cB, hjb, hR]
      · have hjb : (decide ((l[i]'hi).Op = 24) || decide ((l[i]'hi).Op = 25)) = false := by simpa using hjm
        simp [-cB, hjb, hR]
    | some k =>
      have e : idxP (isLb (l[i]'hi).Arg) l = k := by unfold idxP; rw [hf]
      rw [e]
      simp [-cB, g0, hi]
      refine AOps.pureC rfl (hj) rfl rfl (by simp) rfl ?_
      by_cases hjm : (l[i]'hi).Op = 24 ∨ (l[i]'hi).Op = 25
      · have hjb : (decide ((l[i]'hi).Op = 24) || decide ((l[i]'hi).Op = 25)) = true := by simpa using hjm
        obtain ⟨hk, hk2, -⟩ := List.findIdx?_eq_some_iff_getElem.1 hf
        have hlab : (l[k]'hk).Op = 38 := by unfold isLb at hk2; simp at hk2; exact hk2.1
        have hp := pPast_ok l (by omega) k (by omega)
        have hln : labNo (l.drop k) = labNo (l.drop (k + 1)) + 1 := by
          rw [List.drop_eq_getElem_cons hk, labNo, if_pos hlab]
        have hsp := (labNo_spec (l.drop (k + 1)))
        have hdw := hsp.2.2.2.1
        have hle := hsp.2.2.1
        rw [List.length_drop] at hle
        rw [List.drop_drop] at hdw
        rw [if_pos hjm, hf] at hR0
        rw [hf] at hR1
        simp only [Option.map_some, hdw] at hR0 hR1
        rw [hln] at hp
        have eq1 : k + 1 + labNo (l.drop (k + 1)) = k + (labNo (l.drop (k + 1)) + 1) := by omega
        rw [eq1] at hR0 hR1
        generalize labNo (l.drop (k + 1)) + 1 = N at *
        obtain ⟨q, hq⟩ : ∃ q : Nat, q = k + N := ⟨_, rfl⟩
        have hqi : (k : Int) + N = (q : Int) := by omega
        rw [hqi] at hp
        rw [← hq] at hR0 hR1
        have hk0 : ¬ (k : Int) < 0 := by omega
        simp [-cB, hjb, hk0]
        refine AOps.pureC rfl (hp) rfl rfl (by simp) rfl ?_
        have hqn : ((q : Int)).toNat = q := by omega
        by_cases hql : q < l.length
        · have gq := List.getElem?_eq_getElem hql
          have ql' : ¬ (l.length : Int) ≤ q := by omega
          have oq : opA (l.drop q) 0 = (l[q]'hql).Op := by rw [opA_dp]; simp [opA, gq]
          have aq : argA (l.drop q) 0 = (l[q]'hql).Arg := by rw [argA_dp]; simp [argA, gq]
          rw [oq, aq] at hR0 hR1
          simp [-cB]
          refine AWP.regionD [] Tryz.mixed (by kernel_rfl) (by rfl) ?_
          by_cases h24 : (l[q]'hql).Op = 24
          · by_cases hsa : (l[q]'hql).Arg = (l[i]'hi).Arg
            · have hR := hR0 (by rw [if_neg (fun h => h.2 hsa)]; rfl)
              simp [-cB, gq, ql', hql, h24, hsa, hR, g0, hi]
            · have hR := hR1 _ hjm (if_pos ⟨h24, hsa⟩)
              simp [-cB, gq, ql', hql, h24, hsa, g0, hi]
              have hw := pWith_ok l [⟨(l[i]'hi).Op, (l[q]'hql).Arg⟩] hl (by simp) i 1 (by omega)
              refine AWP.regionT [some (0, 0), some (0, 0), some (0, 0), some (0, 0), some (0, 0), some (0, 0), some (0, 0), some (0, 0), some (0, 0), some (0, 0), some (0, 0), some (0, 0), some (0, 0), some (0, 0), some (0, 0), some (0, 0), some (0, 0)] [61] [.d (.sl [GIns.enc ⟨(l[i]'hi).Op, (l[q]'hql).Arg⟩]), .d (.sl ((swapM l i 1 [⟨(l[i]'hi).Op, (l[q]'hql).Arg⟩]).map GIns.enc))] Tryz.mixed (by kernel_rfl) ?_
              simp [-cB, gq, hql, g0, hi, hR]
              exact ⟨yop_build tySl_82 (by decide) (by decide) rfl (by simp) (by simp [dd, GIns.enc]) rfl (by simp [GIns.enc]), hw.ok _⟩
          · have hR := hR0 (by rw [if_neg (fun h => h24 h.1)]; rfl)
            simp [-cB, gq, ql', hql, h24, hR, g0, hi]
        · have ql' : (l.length : Int) ≤ q := by omega
          have oq : opA (l.drop q) 0 = 0 := by rw [opA_dp]; simp [opA, List.getElem?_eq_none (show l.length ≤ q by omega)]
          have hR := hR0 (by rw [if_neg (fun h => by rw [oq] at h; simp at h)]; rfl)
          simp [-cB]
          refine AWP.regionD [] Tryz.mixed (by kernel_rfl) (by rfl) ?_
          simp [-cB, ql', hR]
      · have hjb : (decide ((l[i]'hi).Op = 24) || decide ((l[i]'hi).Op = 25)) = false := by simpa using hjm
        have hR := hR0 (if_neg hjm)
        simp [-cB, hjb, hR]
  cases hz : (if (l[i]'hi).Op = 24 ∨ (l[i]'hi).Op = 25 then (farM l (l.drop i)).map fun x => (0, 1, x) else none : Option (Nat × Nat × List GIns)) with
  | none => exact ⟨[], noR l i _, key _ rfl (fun _ => rfl) (fun x h1 h2 => by rw [if_pos h1, h2] at hz; cases hz)⟩
  | some y =>
    refine ⟨_, someR l i y, key _ rfl (fun h => by rw [h] at hz; cases hz) (fun x h1 h2 => ?_)⟩
    rw [if_pos h1, h2] at hz
    cases hz
    rfl
end Go.Ab

namespace Go.Ab
open Go.Proofs
set_option maxHeartbeats 8000000
set_option maxRecDepth 40000
abbrev WayOK (l : List GIns) (i k : Nat) : Prop := ∃ x : List GIns, offR l i (wayR l (l.drop i) k) x ∧ Pure Tryz.prog 132 [.d (.sl (l.map GIns.enc)), .d (.v (.int .i64 k)), .d (.v (.int .i64 i))] (.tup [.d (.sl (x.map GIns.enc)), .d (.v (.bool (wayR l (l.drop i) k).isSome))])
theorem way0_ok (l : List GIns) (hl : l.length ≤ 100000000000) (i : Nat) (hi : i < l.length) : WayOK l i 0 := by
  obtain ⟨x, hx, hq⟩ := pReckoned_ok l hl i hi
  refine ⟨x, hx, ?_⟩
  generalize (wayR l (l.drop i) 0).isSome = b at *
  · have hk : ((0 : Nat) : Int) = 0 := rfl
    rw [hk]
    refine Pure.run Tryz.func132 rfl (by simp [Tryz.f132]) ?_; simp [-cB, Tryz.f132]
    intro bs
    refine AOps.weaken (Wk.freezeB 3 (ds := [.sl (l.map GIns.enc)]) rfl) ?_
    simp [-cB]
    refine AOps.weaken (Wk.freezeB 5 (ds := [.v (.int .i64 i)]) rfl) ?_
    simp [-cB]
    refine AOps.pureC rfl (hq) rfl rfl (by simp) rfl ?_
    simp [-cB]
theorem way1_ok (l : List GIns) (hl : l.length ≤ 100000000000) (i : Nat) (hi : i < l.length) : WayOK l i 1 := by
  obtain ⟨x, hx, hq⟩ := pTurned_ok l hl i hi
  refine ⟨x, hx, ?_⟩
  generalize (wayR l (l.drop i) 1).isSome = b at *
  · have hk : ((1 : Nat) : Int) = 1 := rfl
    rw [hk]
    refine Pure.run Tryz.func132 rfl (by simp [Tryz.f132]) ?_; simp [-cB, Tryz.f132]
    intro bs
    refine AOps.weaken (Wk.freezeB 3 (ds := [.sl (l.map GIns.enc)]) rfl) ?_
    simp [-cB]
    refine AOps.weaken (Wk.freezeB 5 (ds := [.v (.int .i64 i)]) rfl) ?_
    simp [-cB]
    refine AOps.pureC rfl (hq) rfl rfl (by simp) rfl ?_
    simp [-cB]
theorem way6_ok (l : List GIns) (hl : l.length ≤ 100000000000) (i : Nat) (hi : i < l.length) : WayOK l i 6 := by
  obtain ⟨x, hx, hq⟩ := pNever_ok l hl i hi
  refine ⟨x, hx, ?_⟩
  generalize (wayR l (l.drop i) 6).isSome = b at *
  · have hk : ((6 : Nat) : Int) = 6 := rfl
    rw [hk]
    refine Pure.run Tryz.func132 rfl (by simp [Tryz.f132]) ?_; simp [-cB, Tryz.f132]
    intro bs
    refine AOps.weaken (Wk.freezeB 3 (ds := [.sl (l.map GIns.enc)]) rfl) ?_
    simp [-cB]
    refine AOps.weaken (Wk.freezeB 5 (ds := [.v (.int .i64 i)]) rfl) ?_
    simp [-cB]
    refine AOps.pureC rfl (hq) rfl rfl (by simp) rfl ?_
    simp [-cB]
theorem way8_ok (l : List GIns) (hl : l.length ≤ 100000000000) (i : Nat) (hi : i < l.length) : WayOK l i 8 := by
  obtain ⟨x, hx, hq⟩ := pFurther_ok l hl i hi
  refine ⟨x, hx, ?_⟩
  generalize (wayR l (l.drop i) 8).isSome = b at *
  · have hk : ((8 : Nat) : Int) = 8 := rfl
    rw [hk]
    refine Pure.run Tryz.func132 rfl (by simp [Tryz.f132]) ?_; simp [-cB, Tryz.f132]
    intro bs
    refine AOps.weaken (Wk.freezeB 3 (ds := [.sl (l.map GIns.enc)]) rfl) ?_
    simp [-cB]
    refine AOps.weaken (Wk.freezeB 5 (ds := [.v (.int .i64 i)]) rfl) ?_
    simp [-cB]
    refine AOps.pureC rfl (hq) rfl rfl (by simp) rfl ?_
    simp [-cB]
theorem way2_ok (l : List GIns) (hl : l.length ≤ 100000000000) (i : Nat) (hi : i < l.length) : WayOK l i 2 := by
  have hq := pIs_ok l (by omega) i (by omega) [10, 10, 25] (by simp)
  rw [isO3 _ (by decide) (by decide) (by decide)] at hq
  have hw0 : wayR l (l.drop i) 2 = if opA (l.drop i) 0 = 10 ∧ opA (l.drop i) 1 = 10 ∧ opA (l.drop i) 2 = 25 then some (0, 2, []) else none := rfl
  have hp := pWith0_ok l hl i (min 2 (l.length - i)) (by omega)
  have hs : (wayR l (l.drop i) 2).isSome = decide (opA (l.drop i) 0 = 10 ∧ opA (l.drop i) 1 = 10 ∧ opA (l.drop i) 2 = 25) := by rw [hw0]; split <;> simp [*]
  rw [← hs] at hq
  refine ⟨swapM l i (min 2 (l.length - i)) [], ?_, ?_⟩
  · intro y hy
    rw [hw0] at hy
    split at hy
    · rename_i h
      have := opA_lt (l := l) (k := i) (j := 2) (by rw [h.2.2]; decide)
      cases hy
      rw [show min 2 (l.length - i) = 2 by omega]; rfl
    · cases hy
  generalize (wayR l (l.drop i) 2).isSome = b at *
  have hmn : ((min 2 (l.length - i) : Nat) : Int) = (if (l.length : Int) - i < 2 then (l.length : Int) - i else 2) := by split <;> omega
  rw [hmn] at hp
  have i1 : inR .i64 ((l.length : Int) - i) := by rw [inR_i64]; omega
  · have hk : ((2 : Nat) : Int) = 2 := rfl
    rw [hk]
    refine Pure.run Tryz.func132 rfl (by simp [Tryz.f132]) ?_; simp [-cB, Tryz.f132]
    intro bs
    refine AWP.weaken (Wk.freezeB 3 (ds := [.sl (l.map GIns.enc)]) rfl) ?_
    refine AWP.weaken (Wk.freezeB 5 (ds := [.v (.int .i64 i)]) rfl) ?_
    simp [-cB]
    refine AWP.regionT [some (0, 0), some (0, 0), some (0, 0), some (0, 0), some (0, 0), some (0, 0), some (0, 0), some (0, 0), some (0, 0), some (0, 0), some (0, 0), some (0, 0), some (0, 0), some (0, 0)] [35] [.d (.sl ((swapM l i (min 2 (l.length - i)) []).map GIns.enc)), .d (.sl (encI [10, 10, 25])), .d (.v (.bool b))] Tryz.mixed (by kernel_rfl) ?_
    simp [-cB, i1]
    exact ⟨hp.ok _, yop_build tySl_23 (by decide) (by decide) rfl (by simp; decide) (by simp [dd, encI]) rfl (by simp [encI]), hq.ok _⟩
theorem way3_ok (l : List GIns) (hl : l.length ≤ 100000000000) (i : Nat) (hi : i < l.length) : WayOK l i 3 := by
  have g0 := List.getElem?_eq_getElem hi
  have b0 : argA (l.drop i) 0 = (l[i]'hi).Arg := by rw [argA_dp]; simp [argA, g0]
  have o0 : opA (l.drop i) 0 = (l[i]'hi).Op := by rw [opA_dp]; simp [opA, g0]
  have hq := pIs_ok l (by omega) i (by omega) [1, 25] (by simp)
  rw [isO2 _ (by decide) (by decide)] at hq
  have hz := pZero_ok (l[i]'hi)
  rw [← b0] at hz
  have hw0 : wayR l (l.drop i) 3 = if opA (l.drop i) 0 = 1 ∧ opA (l.drop i) 1 = 25 ∧ wrapM (argA (l.drop i) 0) = 0 then some (0, 2, [⟨24, argA (l.drop i) 1⟩]) else none := rfl
  have i1 : inR .i64 ((i : Int) + 1) := by rw [inR_i64]; omega
  have c1 : ((i : Int) + 1).toNat = i + 1 := by omega
  have z1 : (0 : Int) ≤ i + 1 := by omega
  by_cases h2 : opA (l.drop i) 0 = 1 ∧ opA (l.drop i) 1 = 25
  · have l1 : i + 1 < l.length := opA_lt (l := l) (k := i) (j := 1) (by rw [h2.2]; decide)
    have g1 := List.getElem?_eq_getElem l1
    have b1 : argA (l.drop i) 1 = (l[i + 1]'l1).Arg := by rw [argA_dp]; simp [argA, g1]
    rw [decide_eq_true h2] at hq
    by_cases hw : wrapM (argA (l.drop i) 0) = 0
    · rw [decide_eq_true hw] at hz
      rw [if_pos ⟨h2.1, h2.2, hw⟩] at hw0
      refine ⟨_, by rw [hw0]; exact someR l i _, ?_⟩
      rw [hw0]
      have hp := pWith_ok l [⟨24, argA (l.drop i) 1⟩] hl (by simp) i 2 (by omega)
      simp only [b1] at hp ⊢
      have hk : ((3 : Nat) : Int) = 3 := rfl
      rw [hk]
      refine Pure.run Tryz.func132 rfl (by simp [Tryz.f132]) ?_; simp [-cB, Tryz.f132]
      intro bs
      refine AOps.weaken (Wk.freezeB 3 (ds := [.sl (l.map GIns.enc)]) rfl) ?_
      simp [-cB]
      refine AOps.weaken (Wk.freezeB 5 (ds := [.v (.int .i64 i)]) rfl) ?_
      simp [-cB]
      refine AOps.weaken (Wk.freeze 41 (ys := encI [1, 25]) rfl) ?_
      simp [-cB]
      refine AOps.pureC rfl (hq) rfl rfl (by simp) rfl ?_
      simp [-cB, g0, hi]
      refine AOps.pureG rfl (fun h => hz) rfl (by first | rfl | (simp; done) | (simp; rfl)) (by simp) (by simp) rfl ?_
      simp [-cB]
      refine AWP.regionT [some (0, 0), some (0, 0), some (0, 0), some (0, 0), some (0, 0), some (0, 0), some (0, 0), some (0, 0), some (0, 0), some (0, 0), some (0, 0), some (0, 0), some (0, 0)] [59] [.d (.sl [GIns.enc ⟨24, (l[i + 1]'l1).Arg⟩]), .d (.sl ((swapM l i 2 [⟨24, (l[i + 1]'l1).Arg⟩]).map GIns.enc))] Tryz.mixed (by kernel_rfl) ?_
      simp [-cB, i1, c1, z1, g1, l1]
      exact ⟨yop_build tySl_82 (by decide) (by decide) rfl (by simp) (by simp [dd, GIns.enc]) rfl (by simp [GIns.enc]), hp.ok _⟩
    · rw [decide_eq_false hw] at hz
      rw [if_neg (fun h => hw h.2.2)] at hw0
      refine ⟨[], by rw [hw0]; exact noR l i _, ?_⟩
      rw [hw0]
      have hk : ((3 : Nat) : Int) = 3 := rfl
      rw [hk]
      refine Pure.run Tryz.func132 rfl (by simp [Tryz.f132]) ?_; simp [-cB, Tryz.f132]
      intro bs
      refine AOps.weaken (Wk.freezeB 3 (ds := [.sl (l.map GIns.enc)]) rfl) ?_
      simp [-cB]
      refine AOps.weaken (Wk.freezeB 5 (ds := [.v (.int .i64 i)]) rfl) ?_
      simp [-cB]
      refine AOps.weaken (Wk.freeze 41 (ys := encI [1, 25]) rfl) ?_
      simp [-cB]
      refine AOps.pureC rfl (hq) rfl rfl (by simp) rfl ?_
      simp [-cB, g0, hi]
      refine AOps.pureG rfl (fun h => hz) rfl (by first | rfl | (simp; done) | (simp; rfl)) (by simp) (by simp) rfl ?_
      simp [-cB]
  · rw [decide_eq_false h2] at hq
    rw [if_neg (fun h => h2 ⟨h.1, h.2.1⟩)] at hw0
    refine ⟨[], by rw [hw0]; exact noR l i _, ?_⟩
    rw [hw0]
    have hk : ((3 : Nat) : Int) = 3 := rfl
    rw [hk]
    refine Pure.run Tryz.func132 rfl (by simp [Tryz.f132]) ?_; simp [-cB, Tryz.f132]
    intro bs
    refine AOps.weaken (Wk.freezeB 3 (ds := [.sl (l.map GIns.enc)]) rfl) ?_
    simp [-cB]
    refine AOps.weaken (Wk.freezeB 5 (ds := [.v (.int .i64 i)]) rfl) ?_
    simp [-cB]
    refine AOps.weaken (Wk.freeze 41 (ys := encI [1, 25]) rfl) ?_
    simp [-cB]
    refine AOps.pureC rfl (hq) rfl rfl (by simp) rfl ?_
    simp [-cB, g0, hi]
    refine AOps.pureG (g := false) (f := 169) (args := [.agg ((l[i]'hi).enc.map .d)]) (x := .d (.v (.bool false))) rfl (fun h => by cases h) rfl (by first | rfl | (simp; done) | (simp; rfl)) (by simp) (by simp) rfl ?_
    simp [-cB]
theorem way4_ok (l : List GIns) (hl : l.length ≤ 100000000000) (i : Nat) (hi : i < l.length) : WayOK l i 4 := by
  have g0 := List.getElem?_eq_getElem hi
  have b0 : argA (l.drop i) 0 = (l[i]'hi).Arg := by rw [argA_dp]; simp [argA, g0]
  have o0 : opA (l.drop i) 0 = (l[i]'hi).Op := by rw [opA_dp]; simp [opA, g0]
  have hq := pIs_ok l (by omega) i (by omega) [1, 25] (by simp)
  rw [isO2 _ (by decide) (by decide)] at hq
  have hz := pZero_ok (l[i]'hi)
  rw [← b0] at hz
  have hw0 : wayR l (l.drop i) 4 = if opA (l.drop i) 0 = 1 ∧ opA (l.drop i) 1 = 25 ∧ wrapM (argA (l.drop i) 0) ≠ 0 then some (0, 2, []) else none := rfl
  have i1 : inR .i64 ((i : Int) + 1) := by rw [inR_i64]; omega
  have c1 : ((i : Int) + 1).toNat = i + 1 := by omega
  have z1 : (0 : Int) ≤ i + 1 := by omega
  by_cases h2 : opA (l.drop i) 0 = 1 ∧ opA (l.drop i) 1 = 25
  · have l1 : i + 1 < l.length := opA_lt (l := l) (k := i) (j := 1) (by rw [h2.2]; decide)
    have g1 := List.getElem?_eq_getElem l1
    have b1 : argA (l.drop i) 1 = (l[i + 1]'l1).Arg := by rw [argA_dp]; simp [argA, g1]
    rw [decide_eq_true h2] at hq
    by_cases hw : wrapM (argA (l.drop i) 0) = 0
    · rw [decide_eq_true hw] at hz
      rw [if_neg (fun h => h.2.2 hw)] at hw0
      refine ⟨[], by rw [hw0]; exact noR l i _, ?_⟩
      rw [hw0]
      have hk : ((4 : Nat) : Int) = 4 := rfl
      rw [hk]
      refine Pure.run Tryz.func132 rfl (by simp [Tryz.f132]) ?_; simp [-cB, Tryz.f132]
      intro bs
      refine AOps.weaken (Wk.freezeB 3 (ds := [.sl (l.map GIns.enc)]) rfl) ?_
      simp [-cB]
      refine AOps.weaken (Wk.freezeB 5 (ds := [.v (.int .i64 i)]) rfl) ?_
      simp [-cB]
      refine AOps.weaken (Wk.freeze 65 (ys := encI [1, 25]) rfl) ?_
      simp [-cB]
      refine AOps.pureC rfl (hq) rfl rfl (by simp) rfl ?_
      simp [-cB, g0, hi]
      refine AOps.pureG rfl (fun h => hz) rfl (by first | rfl | (simp; done) | (simp; rfl)) (by simp) (by simp) rfl ?_
      simp [-cB]
    · rw [decide_eq_false hw] at hz
      rw [if_pos ⟨h2.1, h2.2, hw⟩] at hw0
      refine ⟨_, by rw [hw0]; exact someR l i _, ?_⟩
      rw [hw0]
      have hp := pWith0_ok l hl i 2 (by omega)
      have hk : ((4 : Nat) : Int) = 4 := rfl
      rw [hk]
      refine Pure.run Tryz.func132 rfl (by simp [Tryz.f132]) ?_; simp [-cB, Tryz.f132]
      intro bs
      refine AOps.weaken (Wk.freezeB 3 (ds := [.sl (l.map GIns.enc)]) rfl) ?_
      simp [-cB]
      refine AOps.weaken (Wk.freezeB 5 (ds := [.v (.int .i64 i)]) rfl) ?_
      simp [-cB]
      refine AOps.weaken (Wk.freeze 65 (ys := encI [1, 25]) rfl) ?_
      simp [-cB]
      refine AOps.pureC rfl (hq) rfl rfl (by simp) rfl ?_
      simp [-cB, g0, hi]
      refine AOps.pureG rfl (fun h => hz) rfl (by first | rfl | (simp; done) | (simp; rfl)) (by simp) (by simp) rfl ?_
      simp [-cB]
      refine AOps.pureC rfl (hp) rfl rfl (by simp) rfl ?_
      simp [-cB]
  · rw [decide_eq_false h2] at hq
    rw [if_neg (fun h => h2 ⟨h.1, h.2.1⟩)] at hw0
    refine ⟨[], by rw [hw0]; exact noR l i _, ?_⟩
    rw [hw0]
    have hk : ((4 : Nat) : Int) = 4 := rfl
    rw [hk]
    refine Pure.run Tryz.func132 rfl (by simp [Tryz.f132]) ?_; simp [-cB, Tryz.f132]
    intro bs
    refine AOps.weaken (Wk.freezeB 3 (ds := [.sl (l.map GIns.enc)]) rfl) ?_
    simp [-cB]
    refine AOps.weaken (Wk.freezeB 5 (ds := [.v (.int .i64 i)]) rfl) ?_
    simp [-cB]
    refine AOps.weaken (Wk.freeze 65 (ys := encI [1, 25]) rfl) ?_
    simp [-cB]
    refine AOps.pureC rfl (hq) rfl rfl (by simp) rfl ?_
    simp [-cB, g0, hi]
    refine AOps.pureG (g := false) (f := 169) (args := [.agg ((l[i]'hi).enc.map .d)]) (x := .d (.v (.bool false))) rfl (fun h => by cases h) rfl (by first | rfl | (simp; done) | (simp; rfl)) (by simp) (by simp) rfl ?_
    simp [-cB]
theorem way5_ok (l : List GIns) (hl : l.length ≤ 100000000000) (i : Nat) (hi : i < l.length) : WayOK l i 5 := by
  have hq := pIs_ok l (by omega) i (by omega) [1, 2] (by simp)
  rw [isO2 _ (by decide) (by decide)] at hq
  have hw0 : wayR l (l.drop i) 5 = if opA (l.drop i) 0 = 1 ∧ opA (l.drop i) 1 = 2 then some (0, 2, []) else none := rfl
  by_cases h2 : opA (l.drop i) 0 = 1 ∧ opA (l.drop i) 1 = 2
  · have l1 : i + 1 < l.length := opA_lt (l := l) (k := i) (j := 1) (by rw [h2.2]; decide)
    rw [decide_eq_true h2] at hq
    rw [if_pos h2] at hw0
    refine ⟨_, by rw [hw0]; exact someR l i _, ?_⟩
    rw [hw0]
    have hp := pWith0_ok l hl i 2 (by omega)
    have hk : ((5 : Nat) : Int) = 5 := rfl
    rw [hk]
    refine Pure.run Tryz.func132 rfl (by simp [Tryz.f132]) ?_; simp [-cB, Tryz.f132]
    intro bs
    refine AOps.weaken (Wk.freezeB 3 (ds := [.sl (l.map GIns.enc)]) rfl) ?_
    simp [-cB]
    refine AOps.weaken (Wk.freezeB 5 (ds := [.v (.int .i64 i)]) rfl) ?_
    simp [-cB]
    refine AOps.weaken (Wk.freeze 82 (ys := encI [1, 2]) rfl) ?_
    simp [-cB]
    refine AOps.pureC rfl (hq) rfl rfl (by simp) rfl ?_
    simp [-cB]
    refine AOps.pureC rfl (hp) rfl rfl (by simp) rfl ?_
    simp [-cB]
  · rw [decide_eq_false h2] at hq
    rw [if_neg h2] at hw0
    refine ⟨[], by rw [hw0]; exact noR l i _, ?_⟩
    rw [hw0]
    have hk : ((5 : Nat) : Int) = 5 := rfl
    rw [hk]
    refine Pure.run Tryz.func132 rfl (by simp [Tryz.f132]) ?_; simp [-cB, Tryz.f132]
    intro bs
    refine AOps.weaken (Wk.freezeB 3 (ds := [.sl (l.map GIns.enc)]) rfl) ?_
    simp [-cB]
    refine AOps.weaken (Wk.freezeB 5 (ds := [.v (.int .i64 i)]) rfl) ?_
    simp [-cB]
    refine AOps.weaken (Wk.freeze 82 (ys := encI [1, 2]) rfl) ?_
    simp [-cB]
    refine AOps.pureC rfl (hq) rfl rfl (by simp) rfl ?_
    simp [-cB]
theorem pAsk_ok (l : List GIns) (i : Nat) (hi : i < l.length) (x : GIns) : Pure Tryz.prog 175 [.agg (x.enc.map .d), .rp [.sl (l.map GIns.enc)], .rp [.v (.int .i64 i)]] (.d (.v (.bool ((decide (x.Op = 24) || decide (x.Op = 25)) && decide (x.Arg = argA (l.drop i) 0))))) := by
  have g0 := List.getElem?_eq_getElem hi
  have b0 : argA (l.drop i) 0 = (l[i]'hi).Arg := by rw [argA_dp]; simp [argA, g0]
  have o0 : opA (l.drop i) 0 = (l[i]'hi).Op := by rw [opA_dp]; simp [opA, g0]
  have hj := pJumps_ok x
  rw [b0]
  generalize (decide (x.Op = 24) || decide (x.Op = 25)) = j at *
  refine Pure.run Tryz.func175 rfl (by simp [Tryz.f175]) ?_; simp [-cB, Tryz.f175]
  intro bs
  refine AWP.regionD [.d (.v (.bool j))] Tryz.mixed (by kernel_rfl) (by rfl) ?_
  simp [-cB, g0, hi]
  exact hj.ok _
theorem way9_ok (l : List GIns) (hl : l.length ≤ 100000000000) (i : Nat) (hi : i < l.length) : WayOK l i 9 := by
  have g0 := List.getElem?_eq_getElem hi
  have b0 : argA (l.drop i) 0 = (l[i]'hi).Arg := by rw [argA_dp]; simp [argA, g0]
  have o0 : opA (l.drop i) 0 = (l[i]'hi).Op := by rw [opA_dp]; simp [opA, g0]
  have hx := anyI_ok l (by omega) 175 [.rp [.sl (l.map GIns.enc)], .rp [.v (.int .i64 i)]] rfl (fun x => (decide (x.Op = 24) || decide (x.Op = 25)) && decide (x.Arg = argA (l.drop i) 0)) (fun x _ => pAsk_ok l i hi x)
  have hask : l.any (fun x => (decide (x.Op = 24) || decide (x.Op = 25)) && decide (x.Arg = argA (l.drop i) 0)) = askedL l (argA (l.drop i) 0) := rfl
  rw [hask] at hx
  have hp := pWith0_ok l hl i 1 (by omega)
  have hw0 : wayR l (l.drop i) 9 = if (l[i]'hi).Op = 38 ∧ askedL l (argA (l.drop i) 0) = false then some (0, 1, []) else none := by
    show (if opA (l.drop i) 0 = 38 ∧ _ then _ else _) = _
    rw [o0]
  generalize askedL l (argA (l.drop i) 0) = A at *
  have hk : ((9 : Nat) : Int) = 9 := rfl
  by_cases hc : (l[i]'hi).Op = 38 ∧ A = false
  · rw [if_pos hc] at hw0
    obtain ⟨hc1, rfl⟩ := hc
    refine ⟨_, by rw [hw0]; exact someR l i _, ?_⟩
    rw [hw0, hk]
    refine Pure.run Tryz.func132 rfl (by simp [Tryz.f132, g0, hi]) ?_; simp [-cB, Tryz.f132, g0, hi]
    intro bs
    refine AOps.weaken (Wk.freezeB 3 (ds := [.sl (l.map GIns.enc)]) rfl) ?_
    simp [-cB]
    refine AOps.weaken (Wk.freezeB 5 (ds := [.v (.int .i64 i)]) rfl) ?_
    simp [-cB]
    simp [-cB, g0, hi, hc1]
    refine AOps.pureG rfl (fun h => hx) rfl (by first | rfl | (simp; done) | (simp; rfl)) (by simp) (by simp) rfl ?_
    simp [-cB]
    refine AOps.pureC rfl (hp) rfl rfl (by simp) rfl ?_
    simp [-cB]
  · rw [if_neg hc] at hw0
    refine ⟨[], by rw [hw0]; exact noR l i _, ?_⟩
    rw [hw0, hk]
    by_cases hc1 : (l[i]'hi).Op = 38
    · have hA : A = true := by cases A with | true => rfl | false => exact (hc ⟨hc1, rfl⟩).elim
      subst hA
      refine Pure.run Tryz.func132 rfl (by simp [Tryz.f132, g0, hi]) ?_; simp [-cB, Tryz.f132, g0, hi]
      intro bs
      refine AOps.weaken (Wk.freezeB 3 (ds := [.sl (l.map GIns.enc)]) rfl) ?_
      simp [-cB]
      refine AOps.weaken (Wk.freezeB 5 (ds := [.v (.int .i64 i)]) rfl) ?_
      simp [-cB]
      simp [-cB, g0, hi, hc1]
      refine AOps.pureG rfl (fun h => hx) rfl (by first | rfl | (simp; done) | (simp; rfl)) (by simp) (by simp) rfl ?_
      simp [-cB]
    · have hc2 : ((l[i]'hi).Op == 38) = false := by simpa using hc1
      refine Pure.run Tryz.func132 rfl (by simp [Tryz.f132, g0, hi]) ?_; simp [-cB, Tryz.f132, g0, hi]
      intro bs
      refine AOps.weaken (Wk.freezeB 3 (ds := [.sl (l.map GIns.enc)]) rfl) ?_
      simp [-cB]
      refine AOps.weaken (Wk.freezeB 5 (ds := [.v (.int .i64 i)]) rfl) ?_
      simp [-cB]
      simp [-cB, g0, hi, hc1, hc2]
      refine AOps.pureG (g := false) (f := 171) (args := [.d (.sl (l.map GIns.enc)), .clo (.func 175) [] [.rp [.sl (l.map GIns.enc)], .rp [.v (.int .i64 i)]]]) (x := .d (.v (.bool false))) rfl (fun h => by cases h) rfl (by first | rfl | (simp; done) | (simp; rfl)) (by simp) (by simp) rfl ?_
      simp [-cB]
end Go.Ab

namespace Go.Ab
open Go.Proofs
set_option maxHeartbeats 8000000
set_option maxRecDepth 40000
theorem pLabs_ok (l : List GIns) (i : Nat) (hi : i < l.length) (x : GIns) : Pure Tryz.prog 173 [.agg (x.enc.map .d), .rp [.sl (l.map GIns.enc)], .rp [.v (.int .i64 i)]] (.d (.v (.bool (decide (x.Arg = argA (l.drop i) 0))))) := by
  have g0 := List.getElem?_eq_getElem hi
  have b0 : argA (l.drop i) 0 = (l[i]'hi).Arg := by rw [argA_dp]; simp [argA, g0]
  rw [b0]
  refine Pure.run Tryz.func173 rfl (by simp [Tryz.f173]) ?_; simp [-cB, Tryz.f173]
  intro bs
  refine AWP.regionD [] Tryz.mixed (by kernel_rfl) (by rfl) ?_
  simp [-cB, g0, hi]
theorem yop_sliceG {P : Program} {ops : Array Oper} {o : Oper} {s : St} {t : TypeId} {xo : Operand} {lo hi : Option Operand} {x : V} {c : Prop} {b : Bool} (hop : o.op = .slice t xo lo hi none) (hgd : guardV ops s o = some (some b)) (h : sliceV P t ((s.ev xo).un) (lo.map fun z => (s.ev z).un) (hi.map fun z => (s.ev z).un) = some (x, c)) (hc : c)
    (hu : b = true → uncs s o.op.operands.toList) : YOp P ops o s (.gd b x) :=
  yop_guard hgd fun hb => ⟨fun z => (s.ev z).un, fun z hz w O m v hr => un_rel hr (uncs_mem (hu hb) z (by simpa using hz)), .of_Q fun fo m ρ w _ hr => by
    obtain ⟨v, h1, h2⟩ := sliceV_sound (ρ := ρ) (ρa := fun z => (s.ev z).un) (w := w) h hc (hr xo (by rw [hop]; simp [Op.operands])) (fun y hy => hr y (by rw [hop, hy]; simp [Op.operands])) (fun y hy => hr y (by rw [hop, hy]; simp [Op.operands]))
    exact ⟨v, by simp [execOp, hop, h1], h2⟩⟩
theorem way7_ok (l : List GIns) (hl : l.length ≤ 100000000000) (i : Nat) (hi : i < l.length) : WayOK l i 7 := by
  have g0 := List.getElem?_eq_getElem hi
  have o0 : opA (l.drop i) 0 = (l[i]'hi).Op := by rw [opA_dp]; simp [opA, g0]
  have et : (l.drop i).tail = l.drop (i + 1) := by rw [List.tail_drop]
  obtain ⟨-, -, hle, -, htw⟩ := labNo_spec (l.drop (i + 1))
  have hw0 : wayR l (l.drop i) 7 = if (l[i]'hi).Op = 24 ∧ ((l.drop (i + 1)).take (labNo (l.drop (i + 1)))).any (fun x => decide (x.Arg = argA (l.drop i) 0)) = true then some (0, 1, []) else none := by
    show (if opA (l.drop i) 0 = 24 ∧ ((l.drop i).tail.takeWhile isLab).any (fun x => decide (x.Arg = argA (l.drop i) 0)) = true then _ else _) = _
    rw [o0, et, htw]
  have hx := anyI_ok ((l.drop (i + 1)).take (labNo (l.drop (i + 1)))) (by simp; omega) 173 [.rp [.sl (l.map GIns.enc)], .rp [.v (.int .i64 i)]] rfl (fun x => decide (x.Arg = argA (l.drop i) 0)) (fun x _ => pLabs_ok l i hi x)
  have hp := pWith0_ok l hl i 1 (by omega)
  have hps := pPast_ok l (by omega) (i + 1) (by omega)
  rw [List.length_drop] at hle
  simp only [Int.natCast_add, Int.natCast_one] at hps
  generalize ((l.drop (i + 1)).take (labNo (l.drop (i + 1)))).any (fun x => decide (x.Arg = argA (l.drop i) 0)) = A at *
  have hls : ((l.drop (i + 1)).take (labNo (l.drop (i + 1)))) = ((l.take (i + 1 + labNo (l.drop (i + 1)))).drop (i + 1)) := by rw [List.drop_take]; congr 1; omega
  rw [hls] at hx
  generalize labNo (l.drop (i + 1)) = N at *
  simp only [List.map_drop, List.map_take] at hx
  have i1 : inR .i64 ((i : Int) + 1) := by rw [inR_i64]; omega
  have c1 : ((i : Int) + 1).toNat = i + 1 := by omega
  have cN : ((i : Int) + 1 + N).toNat = i + 1 + N := by omega
  have hk : ((7 : Nat) : Int) = 7 := rfl
  by_cases h24 : (l[i]'hi).Op = 24
  · cases A with
    | true =>
      rw [if_pos ⟨h24, rfl⟩] at hw0
      refine ⟨_, by rw [hw0]; exact someR l i _, ?_⟩
      rw [hw0, hk]
      refine Pure.run Tryz.func132 rfl (by simp [Tryz.f132, g0, hi]) ?_; simp [-cB, Tryz.f132, g0, hi]
      intro bs
      refine AWP.weaken (Wk.freezeB 3 (ds := [.sl (l.map GIns.enc)]) rfl) ?_
      refine AWP.weaken (Wk.freezeB 5 (ds := [.v (.int .i64 i)]) rfl) ?_
      simp [-cB]
      refine AWP.regionT [some (0, 0), some (0, 0), some (0, 0), some (0, 0), some (0, 0), some (0, 0), some (0, 0), some (0, 0), some (0, 0), some (0, 0), some (0, 0), some (0, 0), some (0, 0), some (0, 0), some (0, 0), some (0, 0), some (0, 0), some (0, 0)] [110] [.d (.v (.int .i64 ((i : Int) + 1 + N))), .gd true (.d (.sl (((l.take (i + 1 + N)).drop (i + 1)).map GIns.enc))), .d (.v (.bool true))] Tryz.mixed (by kernel_rfl) ?_
      simp [-cB, g0, hi, h24, i1]
      refine ⟨hps.ok _, ?_, hx.ok _, ?_⟩
      · exact yop_sliceG rfl rfl (by simp [sliceV, bndV, c1, cN]; rfl) (by first | omega | (simp; omega)) (by simp [uncs])
      · refine AOps.pureC rfl (hp) rfl rfl (by simp) rfl ?_
        simp [-cB]
    | false =>
      rw [if_neg (fun h => by simp at h)] at hw0
      refine ⟨[], by rw [hw0]; exact noR l i _, ?_⟩
      rw [hw0, hk]
      refine Pure.run Tryz.func132 rfl (by simp [Tryz.f132, g0, hi]) ?_; simp [-cB, Tryz.f132, g0, hi]
      intro bs
      refine AWP.weaken (Wk.freezeB 3 (ds := [.sl (l.map GIns.enc)]) rfl) ?_
      refine AWP.weaken (Wk.freezeB 5 (ds := [.v (.int .i64 i)]) rfl) ?_
      simp [-cB]
      refine AWP.regionT [some (0, 0), some (0, 0), some (0, 0), some (0, 0), some (0, 0), some (0, 0), some (0, 0), some (0, 0), some (0, 0), some (0, 0), some (0, 0), some (0, 0), some (0, 0), some (0, 0), some (0, 0), some (0, 0), some (0, 0), some (0, 0)] [110] [.d (.v (.int .i64 ((i : Int) + 1 + N))), .gd true (.d (.sl (((l.take (i + 1 + N)).drop (i + 1)).map GIns.enc))), .d (.v (.bool false))] Tryz.mixed (by kernel_rfl) ?_
      simp [-cB, g0, hi, h24, i1]
      refine ⟨hps.ok _, ?_, hx.ok _⟩
      exact yop_sliceG rfl rfl (by simp [sliceV, bndV, c1, cN]; rfl) (by first | omega | (simp; omega)) (by simp [uncs])
  · rw [if_neg (fun h => h24 h.1)] at hw0
    refine ⟨[], by rw [hw0]; exact noR l i _, ?_⟩
    rw [hw0, hk]
    have h24' : ((l[i]'hi).Op == 24) = false := by simpa using h24
    · skip
      refine Pure.run Tryz.func132 rfl (by simp [Tryz.f132, g0, hi]) ?_; simp [-cB, Tryz.f132, g0, hi]
      intro bs
      refine AWP.weaken (Wk.freezeB 3 (ds := [.sl (l.map GIns.enc)]) rfl) ?_
      refine AWP.weaken (Wk.freezeB 5 (ds := [.v (.int .i64 i)]) rfl) ?_
      simp [-cB]
      refine AWP.regionT [some (0, 0), some (0, 0), some (0, 0), some (0, 0), some (0, 0), some (0, 0), some (0, 0), some (0, 0), some (0, 0), some (0, 0), some (0, 0), some (0, 0), some (0, 0), some (0, 0), some (0, 0), some (0, 0), some (0, 0), some (0, 0)] [110] [.d (.v (.int .i64 ((i : Int) + 1 + N))), .gd false (.d (.sl (((l.take (i + 1 + N)).drop (i + 1)).map GIns.enc))), .d (.v (.bool false))] Tryz.mixed (by kernel_rfl) ?_
      simp [-cB, g0, hi, h24, h24', i1]
      exact yop_guard rfl (fun h => by cases h)
end Go.Ab

namespace Go.Ab
open Go.Proofs
set_option maxHeartbeats 8000000
set_option maxRecDepth 40000
theorem way_ok (l : List GIns) (hl : l.length ≤ 100000000000) (i : Nat) (hi : i < l.length) (k : Nat) (hk : k < 10) : WayOK l i k := by
  match k, hk with
  | 0, _ => exact way0_ok l hl i hi
  | 1, _ => exact way1_ok l hl i hi
  | 2, _ => exact way2_ok l hl i hi
  | 3, _ => exact way3_ok l hl i hi
  | 4, _ => exact way4_ok l hl i hi
  | 5, _ => exact way5_ok l hl i hi
  | 6, _ => exact way6_ok l hl i hi
  | 7, _ => exact way7_ok l hl i hi
  | 8, _ => exact way8_ok l hl i hi
  | 9, _ => exact way9_ok l hl i hi
theorem better_none {l : List GIns} {i : Nat} (h : ∀ j, j < 10 → wayR l (l.drop i) j = none) : betterM l i = none := by
  unfold betterM
  rw [← firstR_eq, firstR_skip l (l.drop i) 10 0 10 rfl h]; rfl
theorem better_some {l : List GIns} {i k : Nat} (hk : k < 10) (h : ∀ j, j < k → wayR l (l.drop i) j = none) {y : Nat × Nat × List GIns} (hy : wayR l (l.drop i) k = some y) : betterM l i = some (swapM l (i + y.1) y.2.1 y.2.2) := by
  unfold betterM
  rw [← firstR_eq, firstR_skip l (l.drop i) k (9 - k + 1) 10 (by omega) h, firstR, hy]; rfl
theorem pOnce_ok (l : List GIns) (hl : l.length ≤ 10000000000) : Pure Tryz.prog 87 [.d (.sl (l.map GIns.enc))] (.tup [.d (.sl (((onceM l l.length 0).getD l).map GIns.enc)), .d (.v (.bool (onceM l l.length 0).isSome))]) := by
  obtain ⟨R, hR⟩ : ∃ R, (V.tup [.d (.sl (((onceM l l.length 0).getD l).map GIns.enc)), .d (.v (.bool (onceM l l.length 0).isSome))]) = R := ⟨_, rfl⟩
  have hRon : V.on [] R = true := by rw [← hR]; rfl
  rw [hR]
  refine Pure.run Tryz.func87 rfl (by simp [Tryz.f87, hRon]) ?_; simp [-cB, Tryz.f87, hRon]
  refine AWP.loopS [0, 9, 10] l.length (fun i => [(10, .d (.v (.int .i64 i)))]) (fun _ => []) (fun i => ∀ j, j < i → betterM l j = none) (by rfl) (by simp) ?_
  intro i hi hH
  rcases Nat.lt_or_eq_of_le hi with hlt | rfl
  · have i64 : inR .i64 ((i : Int) + 1) := by rw [inR_i64]; omega
    have hlt' : (i : Int) < l.length := by omega
    simp [-cB, hlt']
    refine AWP.loopS [0, 4, 9, 10, 13] 10 (fun k => [(13, .d (.v (.int .i64 k)))]) (fun _ => []) (fun k => ∀ j, j < k → wayR l (l.drop i) j = none) (by rfl) (by simp) ?_
    intro k hk hK
    rcases Nat.lt_or_eq_of_le hk with hkl | rfl
    · have hkl' : (k : Int) < 10 := by omega
      have k64 : inR .i64 ((k : Int) + 1) := by rw [inR_i64]; omega
      obtain ⟨x, hx, hw⟩ := way_ok l (by omega) i hlt k hkl
      simp [-cB, hkl']
      refine AOps.pureC rfl (hw) rfl rfl (by simp) rfl ?_
      cases hy : wayR l (l.drop i) k with
      | none =>
        simp [-cB, k64, hkl]
        intro j hj
        rcases Nat.lt_or_eq_of_le (Nat.le_of_lt_succ hj) with h1 | rfl
        · exact hK j h1
        · exact hy
      | some y =>
        have hb := better_some hkl hK hy
        have he := hx y hy
        rw [← he] at hb
        have ho := onceM_first hb l.length 0 (by omega) (by omega) (fun j _ h => hH j h)
        rw [ho] at hR
        simp [-cB]
        exact hR
    · have hb := better_none hK
      simp [-cB, i64, hlt]
      intro j hj
      rcases Nat.lt_or_eq_of_le (Nat.le_of_lt_succ hj) with h1 | rfl
      · exact hH j h1
      · exact hb
  · have ho := onceM_none l.length 0 (fun j _ h => hH j (by omega))
    rw [ho] at hR
    simp [-cB]
    exact hR
theorem allM_stop {l : List GIns} {i : Nat} (h : onceM (allM i l) (allM i l).length 0 = none) : ∀ k, allM (i + k) l = allM i l
  | 0 => rfl
  | k + 1 => by rw [← Nat.add_assoc, allM_succ, allM_stop h k, h]; rfl
theorem cloneN_ok (h : Nat) (l : List GIns) (hl : l.length * 16 ≤ 140737488355328) : ACalls Tryz.prog 88 [.d (.sl (l.map GIns.enc))] [] (fun r L => r = .ret (.rv h) ∧ L = [(h, .row 116 2 (dd (l.map GIns.enc)))]) := by
  refine ACalls.rowR h ?_
  refine ACalls.run Tryz.func88 rfl (by simp [Tryz.f88]) ?_; simp [Tryz.f88]
  refine AOps.slNil rfl (by simp; exact ⟨rfl, rfl⟩) rfl rfl rfl (by simp) ?_
  intro b hb
  refine AOps.nil ?_
  cases b with
  | true =>
    have hl : l = [] := by have := hb rfl; simpa using this
    subst hl
    simp [-cB]
  | false =>
    simp [-cB]
    omega
theorem pAll_ok (l : List GIns) (hl : l.length ≤ 1000000000) : Pure Tryz.prog 40 [.d (.sl (l.map GIns.enc))] (.d (.sl ((peepM l).map GIns.enc))) := by
  unfold peepM
  obtain ⟨R, hR⟩ : ∃ R, (V.d (.sl ((allM (16 * l.length) l).map GIns.enc))) = R := ⟨_, rfl⟩
  have hRon : V.on [] R = true := by rw [← hR]; rfl
  rw [hR]
  have i16 : inR .i64 (16 * (l.length : Int)) := by rw [inR_i64]; omega
  refine Pure.run Tryz.func40 rfl (by simp [Tryz.f40, hRon]) ?_; simp [-cB, Tryz.f40, hRon]
  simp [-cB, i16]
  refine AWP.loopS [3, 8, 9] (16 * l.length) (fun i => [(9, .d (.v (.int .i64 i))), (3, .d (.sl ((allM i l).map GIns.enc)))]) (fun _ => []) (fun _ => True) (by rfl) (by simp [allM]) ?_
  intro i hi _
  have hle : (allM i l).length ≤ l.length := allM_len i l
  have hon := pOnce_ok (allM i l) (by omega)
  rcases Nat.lt_or_eq_of_le hi with hlt | rfl
  · have hlt' : (i : Int) < 16 * l.length := by omega
    have i64 : inR .i64 ((i : Int) + 1) := by rw [inR_i64]; omega
    simp [-cB, hlt']
    refine AOps.pureC rfl (hon) rfl rfl (by simp) rfl ?_
    have hs := allM_succ i l
    cases ho : onceM (allM i l) (allM i l).length 0 with
    | some x =>
      rw [ho] at hs
      simp only [Option.getD_some] at hs
      simp [-cB, i64, hlt, hs]
    | none =>
      have hfix := allM_stop ho (16 * l.length - i)
      rw [show i + (16 * l.length - i) = 16 * l.length by omega] at hfix
      rw [hfix] at hR
      simp [-cB]
      refine AOps.effD [] rfl ((cloneN_ok 5101 (allM i l) (by omega))) (by simp) rfl (by simp) rfl (by kernel_rfl) (by simp) (by simp) (by simp) (by simp) (by simp) ?_
      simp [-cB]
      exact hR
  · have hlt' : ¬ ((16 * l.length : Nat) : Int) < 16 * l.length := by omega
    simp [-cB]
    refine AOps.effD [] rfl ((cloneN_ok 5101 (allM (16 * l.length) l) (by omega))) (by simp) rfl (by simp) rfl (by kernel_rfl) (by simp) (by simp) (by simp) (by simp) (by simp) ?_
    simp [-cB]
    exact hR
end Go.Ab

namespace Go.Ab
open Go.Proofs
set_option maxHeartbeats 4000000
set_option maxRecDepth 8000
end Go.Ab

namespace Go.Ab
open Go.Proofs
set_option maxHeartbeats 4000000
set_option maxRecDepth 8000
def ixM (n : Int) : List Int → Nat → Int
  | [], _ => -1
  | x :: l, i => if n = x then (i : Int) else ixM n l (i + 1)
theorem ixM_iff (n : Int) : ∀ (l : List Int) (i : Nat), decide (0 ≤ ixM n l i) = l.contains n
  | [], i => by simp [ixM]
  | x :: l, i => by
    rw [ixM, List.contains_cons]
    by_cases h : n = x
    · subst h; simp
    · rw [if_neg h, ixM_iff n l]; simp [h]
theorem indexI_ok (l : List Int) (n : Int) (hl : l.length ≤ 1000000) : Pure Tryz.prog 205 [.d (.sl (encI l)), intD n] (intD (ixM n l 0)) := by
  refine Pure.run Tryz.func205 rfl (by simp [Tryz.f205]) ?_; simp [-cB, Tryz.f205]
  refine AWP.loopS [0, 1, 7, 8] l.length (fun i => [(8, intD i)]) (fun _ => []) (fun i => ixM n (l.drop i) i = ixM n l 0) (by rfl) (by simp [encI]) ?_
  intro i hi hH
  rcases Nat.lt_or_eq_of_le hi with hlt | heq
  · have hx : l[i]? = some l[i] := List.getElem?_eq_getElem hlt
    have h64 : inR .i64 ((i : Int) + 1) := by rw [inR_i64]; omega
    rw [List.drop_eq_getElem_cons hlt, ixM] at hH
    by_cases hp : n = l[i]
    · rw [if_pos hp] at hH
      simp [hlt, ← hp]
      exact hH
    · rw [if_neg hp] at hH
      simp [hlt, hp, h64]
      exact hH
  · have : l.drop i = [] := by rw [heq]; simp
    rw [this] at hH
    simp [heq]
    exact hH
theorem containsI_ok (l : List Int) (n : Int) (hl : l.length ≤ 1000000) : Pure Tryz.prog 191 [.d (.sl (encI l)), intD n] (boolD (l.contains n)) := by
  have h := indexI_ok l n hl
  rw [← ixM_iff n l 0]
  refine Pure.run Tryz.func191 rfl (by simp [Tryz.f191]) ?_; simp [-cB, Tryz.f191]
  refine AOps.pureC rfl (h) rfl rfl (by simp) rfl ?_
  simp
theorem opOne_ok (l : List Int) (n : Int) (hl : l.length ≤ 1000000) : Pure Tryz.prog 163 [intD n, .d (.sl (encI l))] (boolD (l.contains n)) := by
  have h := containsI_ok l n hl
  refine Pure.run Tryz.func163 rfl (by simp [Tryz.f163]) ?_; simp [-cB, Tryz.f163]
  refine AOps.pureC rfl (h) rfl rfl (by simp) rfl ?_
  simp
theorem opHas_ok (n : Int) : Pure Tryz.prog 127 [intD n] (boolD (hasA n)) := by
  have h := opOne_ok [1, 3, 4, 5, 6, 7, 8, 12, 13, 14, 15, 16, 19, 21, 24, 25, 26, 32, 33, 38] n (by simp)
  unfold hasA
  refine Pure.run Tryz.func127 rfl (by simp [Tryz.f127]) ?_; simp [-cB, Tryz.f127]
  refine AOps.weaken (Wk.freeze 4 (ys := encI [1, 3, 4, 5, 6, 7, 8, 12, 13, 14, 15, 16, 19, 21, 24, 25, 26, 32, 33, 38]) rfl) ?_
  simp [-cB]
  refine AOps.pureC rfl (h) rfl rfl (by simp) rfl ?_
  simp
theorem opSize_ok (n : Int) : Pure Tryz.prog 129 [intD n] (intD (bytesM n)) := by
  unfold bytesM
  by_cases h0 : n = 0
  · subst h0
    refine Pure.run Tryz.func129 rfl (by simp [Tryz.f129]) ?_; simp [-cB, Tryz.f129]
  · by_cases h1 : -128 ≤ n ∧ n ≤ 127
    · refine Pure.run Tryz.func129 rfl (by simp [Tryz.f129]) ?_; simp [-cB, Tryz.f129]
      repeat' (first
        | (with_reducible refine And.intro ?_ ?_)
        | (refine condC_split (fun h => ?_) (fun h => ?_) <;> (try simp at h) <;> (try simp [-cB, *]))
        | (with_reducible intro _))
      all_goals (try omega)
    · refine Pure.run Tryz.func129 rfl (by simp [Tryz.f129]) ?_; simp [-cB, Tryz.f129]
      repeat' (first
        | (with_reducible refine And.intro ?_ ?_)
        | (refine condC_split (fun h => ?_) (fun h => ?_) <;> (try simp at h) <;> (try simp [-cB, *]))
        | (with_reducible intro _))
      all_goals (try omega)
theorem opKnown_ok (n : Int) : Pure Tryz.prog 128 [intD n] (boolD (decide (1 ≤ n) && decide (n ≤ 38))) := by
  refine Pure.run Tryz.func128 rfl (by simp [Tryz.f128]) ?_; simp [Tryz.f128]
end Go.Ab

namespace Go.Ab
open Go.Proofs
set_option maxHeartbeats 4000000
set_option maxRecDepth 20000
theorem growB_ok (h : Nat) (N : Nat) (hn : N ≤ 1000000000000) : ACalls Tryz.prog 164 [.d (.v (.slice none 0 0)), .d (.v (.int .i64 N))] [] (fun r L => r = .ret (.rv h) ∧ L = [(h, .row 5 1 (dd []))]) := by
  refine ACalls.rowR h ?_
  have h0 : ¬ (N : Int) < 0 := by omega
  have h64 : inR .i64 (N : Int) := by rw [inR_i64]; omega
  refine ACalls.run Tryz.func164 rfl (by simp [Tryz.f164]) ?_; simp [Tryz.f164]
  refine ⟨fun h => absurd h h0, ?_⟩
  refine AOps.quietT rfl (by simp) (OpT.capNil rfl rfl (by simp)) (runC_sound _ _ [] rfl fun bs => ?_)
  have e0 : inR .i64 0 := by rw [inR_i64]; omega
  by_cases hN : 0 < N
  · simp [-cB, e0, h64, hN]
    refine AOps.quietT rfl (by simp) (OpT.capNil rfl rfl (by simp)) (runC_sound _ _ [] rfl fun bs => ?_)
    simp [-cB]
    refine AOps.quietT rfl (by simp) (OpT.cutNil rfl rfl (by simp) (by simp)) (runC_sound _ _ [] rfl fun bs => ?_)
    simp [-cB]
    refine AOps.loud rfl (by simp) (growZL (h := 22) (N := N) (k := 1) (by_ := 1) (kq := .i64) (kn := .i64) tySl_54 (by kernel_rfl) (by simp) (by simp) (by decide) (by simp) hN (by omega)) ?_
    rintro x s' ⟨rfl, rfl⟩
    refine runC_sound _ _ [] rfl fun bs => ?_
    simp [-cB]
  · simp [-cB, e0, h64, hN]
def sumB (ll : List (List Int)) : Nat := (ll.map List.length).sum
theorem concatB_ok (ll : List (List Int)) (hl : ll.length ≤ 1000) (hs : sumB ll ≤ 1000000000000) : Pure Tryz.prog 130 [.d (.sl (encSl encY ll))] (.d (.sl (encY ll.flatten))) := by
  refine Pure.run Tryz.func130 rfl (by simp [Tryz.f130]) ?_; simp [-cB, Tryz.f130]
  refine AWP.loopL [0, 3, 9, 10, 11] ll (fun pre => [(3, .d (.v (.int .i64 (sumB pre)))), (11, .d (.v (.int .i64 pre.length)))]) (fun _ => []) (fun _ => True) (by rfl) (by omega) (by simp [sumB]) ?_ ?_
  · rintro pre x post hsp - hlt hge a4
    have hsx : sumB (pre ++ [x]) = sumB pre + x.length := by simp [sumB]
    have hle : sumB pre + x.length ≤ sumB ll := by rw [hsp]; simp [sumB]
    clear hsp
    have h64 : inR .i64 ((sumB pre : Int) + x.length) := by rw [inR_i64]; omega
    have h0 : ¬ ((sumB pre : Int) + x.length) < 0 := by omega
    simp [-cB, *]
  · intro _
    simp [-cB]
    refine AOps.effD [] rfl ((growB_ok 5101 (sumB ll) hs)) (by simp) rfl (by simp) rfl (by kernel_rfl) (by simp) (by simp) (by simp) (by simp) (by simp) ?_
    simp [-cB]
    refine AWP.loopL [6, 25, 26, 27] ll (fun pre => [(6, .rv 5101), (27, .d (.v (.int .i64 pre.length)))]) (fun pre => [(5101, .row 5 1 (dd (encY pre.flatten)))]) (fun _ => True) (by rfl) (by omega) (by simp; rfl) ?_ ?_
    · rintro pre x post hsp - hlt hge a4
      have hle : pre.flatten.length + x.length ≤ sumB ll := by rw [hsp]; simp [sumB, List.length_flatten]
      clear hsp
      simp [-cB, *]
      rw [List.length_flatten] at hle
      exact ⟨encY_one _, by omega⟩
    · intro _
      simp [-cB]
theorem enc3 (k : Nat) (a b c : Int) : List.drop k (List.take 3 (encY [a, b, c])) = encY (List.drop k [a, b, c]) := by
  rw [List.take_of_length_le (by simp)]
  exact List.map_drop.symm
theorem opEncode_ok (i : GIns) : Pure Tryz.prog 81 [.agg (i.enc.map .d)] (.d (.sl (encY (encM i)))) := by
  have hk := opKnown_ok i.Op
  have hh := opHas_ok i.Op
  have hw := wrap_ok i.Arg
  unfold encM
  by_cases h1 : i.Op < 1 ∨ 38 ≤ i.Op
  · rw [if_pos h1]
    refine Pure.run Tryz.func81 rfl (by simp [Tryz.f81]) ?_; simp [-cB, Tryz.f81]
    intro bs
    refine AOps.pureC rfl (hk) rfl rfl (by simp) rfl ?_
    by_cases h2 : i.Op = 38
    · simp [-cB, h2]
      rfl
    · have hkb : (decide (1 ≤ i.Op) && decide (i.Op ≤ 38)) = false := by simp; omega
      simp [-cB, hkb]
      rfl
  · rw [if_neg h1]
    have hkb : (decide (1 ≤ i.Op) && decide (i.Op ≤ 38)) = true := by simp; omega
    have h38 : ¬ i.Op = 38 := by omega
    have hs := opSize_ok (argE i)
    have hb := argE_bd i
    have h64a : inR .i64 (4 * i.Op) := by rw [inR_i64]; omega
    obtain ⟨n, hn⟩ : ∃ n, bytesM (argE i) = n := ⟨_, rfl⟩
    have hn2 : n ≤ 2 := by rw [← hn]; exact bytesM_le _
    rw [hn] at hs ⊢
    obtain ⟨A, hA⟩ : ∃ A, argE i = A := ⟨_, rfl⟩
    rw [hA] at hs hb ⊢
    have h64b : inR .i64 (4 * i.Op + n) := by rw [inR_i64]; omega
    have h64c : inR .i64 (3 - (n : Int)) := by rw [inR_i64]; omega
    have hn3 : (3 - (n : Int)).toNat = 3 - n := by omega
    have u2 : IntKind.u8.wrap (A.fdiv (2 ^ min 8 IntKind.i64.bits)) = A / 256 % 256 := by
      rw [show ((2 : Int) ^ min 8 IntKind.i64.bits) = 256 by decide, Int.fdiv_eq_ediv_of_nonneg _ (by decide)]; rfl
    have u3 : IntKind.u8.wrap A = A % 256 := rfl
    have hc := concatB_ok [[4 * i.Op + n], [4 * i.Op + n, A / 256 % 256, A % 256].drop (3 - n)] (by simp) (by simp [sumB]; omega)
    have hfl : [[4 * i.Op + (n : Int)], [4 * i.Op + n, A / 256 % 256, A % 256].drop (3 - n)].flatten = encK i.Op A n := by
      match n, hn2 with
      | 0, _ => simp [encK, argB]
      | 1, _ => simp [encK, argB]
      | 2, _ => simp [encK, argB]
    rw [hfl] at hc
    have u1 : IntKind.u8.wrap (4 * i.Op + n) = 4 * i.Op + n := inR_wrap ⟨by show (0 : Int) ≤ _; omega, by show _ ≤ (255 : Int); omega⟩
    refine Pure.run Tryz.func81 rfl (by simp [Tryz.f81]) ?_; simp [-cB, Tryz.f81]
    intro bs
    refine AOps.pureC rfl (hk) rfl rfl (by simp) rfl ?_
    simp [-cB, hkb, h38]
    refine AOps.pureC rfl (hh) rfl rfl (by simp) rfl ?_
    unfold argE at hA
    cases hha : hasA i.Op with
    | true =>
      rw [hha, if_pos rfl] at hA
      rw [hA] at hw
      simp [-cB]
      refine AOps.pureC rfl (hw) rfl rfl (by simp) rfl ?_
      simp [-cB]
      refine AOps.pureC rfl (hs) rfl rfl (by simp) rfl ?_
      simp [-cB, h64a, h64b, u1, u2, u3]
      refine AWP.weaken (Wk.freeze 34 (ys := encY [4 * i.Op + n, A / 256 % 256, A % 256]) (by rfl)) ?_
      simp [-cB]
      refine AWP.regionT [some (0, 0), some (0, 0), some (0, 0), some (0, 0), some (0, 0), some (0, 0), some (0, 0), some (0, 0), some (0, 0)] [36, 40, 41] [.d (.sl (encY [4 * i.Op + n])), .d (.sl (encY ([4 * i.Op + n, A / 256 % 256, A % 256].drop (3 - n)))), .d (.sl (encSl encY [[4 * i.Op + n], [4 * i.Op + n, A / 256 % 256, A % 256].drop (3 - n)])), .d (.sl (encY (encK i.Op A n)))] Tryz.mixed (by kernel_rfl) ?_
      simp [-cB, h64c]
      exact ⟨yop_slice rfl rfl (by simp [sliceV, bndV]; exact ⟨rfl, Iff.rfl⟩) (encY_one _), yop_slice rfl rfl (by simp [sliceV, bndV, hn3]; exact ⟨enc3 _ _ _ _, Iff.rfl⟩) (by exact ⟨by omega, encY_one _⟩), yop_build tySl_164 (by decide) (by decide) rfl (by first | (simp; done) | (simp; decide)) (by simp [dd, encSl]) rfl (by simp [encSl]), hc.ok _⟩
    | false =>
      rw [hha] at hA
      simp only [Bool.false_eq_true, if_false] at hA
      subst hA
      simp [-cB]
      refine AOps.pureC rfl (hs) rfl rfl (by simp) rfl ?_
      simp [-cB, h64a, h64b, u1]
      refine AWP.weaken (Wk.freeze 34 (ys := encY [4 * i.Op + n, (0 : Int) / 256 % 256, (0 : Int) % 256]) (by rfl)) ?_
      simp [-cB]
      refine AWP.regionT [some (0, 0), some (0, 0), some (0, 0), some (0, 0), some (0, 0), some (0, 0), some (0, 0), some (0, 0), some (0, 0)] [36, 40, 41] [.d (.sl (encY [4 * i.Op + n])), .d (.sl (encY ([4 * i.Op + n, (0 : Int) / 256 % 256, (0 : Int) % 256].drop (3 - n)))), .d (.sl (encSl encY [[4 * i.Op + n], [4 * i.Op + n, (0 : Int) / 256 % 256, (0 : Int) % 256].drop (3 - n)])), .d (.sl (encY (encK i.Op 0 n)))] Tryz.mixed (by kernel_rfl) ?_
      simp [-cB, h64c]
      exact ⟨yop_slice rfl rfl (by simp [sliceV, bndV]; exact ⟨rfl, Iff.rfl⟩) (encY_one _), yop_slice rfl rfl (by simp [sliceV, bndV, hn3]; exact ⟨enc3 _ _ _ _, Iff.rfl⟩) (by exact ⟨by omega, encY_one _⟩), yop_build tySl_164 (by decide) (by decide) rfl (by first | (simp; done) | (simp; decide)) (by simp [dd, encSl]) rfl (by simp [encSl]), hc.ok _⟩
end Go.Ab

namespace Go.Ab
def farI (z : Zl) (i : Nat) (x : GIns) : Int := farZ z x.Arg (lenZ (z.take (i + 1)))
def growP (z : Zl) (i : Nat) : Option Zl :=
  match z[i]? with
  | some p => if jmp p.1.Op = true ∧ p.2 < bytesM (farI z i p.1) then some (z.set i (p.1, bytesM (farI z i p.1))) else none
  | none => none
def passP : Nat → Nat → Zl → Bool → Zl × Bool
  | 0, _, z, b => (z, b)
  | n + 1, i, z, b => match growP z i with
    | some z' => passP n (i + 1) z' true
    | none => passP n (i + 1) z b
def sizesP : Nat → Zl → Option Zl
  | 0, _ => none
  | g + 1, z => if (passP z.length 0 z false).2 = true then sizesP g (passP z.length 0 z false).1 else some (passP z.length 0 z false).1
def OutZ (z : Zl) : Prop := ∃ i p, z[i]? = some p ∧ jmp p.1.Op = true ∧ int16B (farI z i p.1) = false
instance (z : Zl) (i : Nat) (p : GIns × Nat) : Decidable (jmp p.1.Op = true ∧ int16B (farI z i p.1) = false) := inferInstance
def outF (w : Zl) : Nat → Zl → Bool
  | _, [] => false
  | i, p :: z => (jmp p.1.Op && !int16B (farI w i p.1)) || outF w (i + 1) z
def asmP (l : List GIns) : List Int × Int :=
  if wrongM l ≠ 0 then ([], wrongM l)
  else match sizesP (3 * l.length + 1) (zipZ l) with
    | some z => if 65536 < lenZ z then ([], 3) else if outF z 0 z = true then ([], 3) else (codeZ z 0 z, 0)
    | none => ([], 3)
def leZ : Zl → Zl → Prop
  | [], [] => True
  | p :: a, q :: b => p.1 = q.1 ∧ p.2 ≤ q.2 ∧ leZ a b
  | _, _ => False
theorem leZ_refl : ∀ z, leZ z z
  | [] => trivial
  | p :: z => ⟨rfl, Nat.le_refl _, leZ_refl z⟩
theorem leZ_trans : ∀ {a b c : Zl}, leZ a b → leZ b c → leZ a c
  | [], [], [], _, _ => trivial
  | p :: a, q :: b, r :: c, h, k => ⟨h.1.trans k.1, Nat.le_trans h.2.1 k.2.1, leZ_trans h.2.2 k.2.2⟩
  | [], [], _ :: _, _, k => k.elim
  | [], _ :: _, _, h, _ => h.elim
  | _ :: _, [], _, h, _ => h.elim
  | _ :: _, _ :: _, [], _, k => k.elim
theorem leZ_len : ∀ {a b : Zl}, leZ a b → a.length = b.length
  | [], [], _ => rfl
  | p :: a, q :: b, h => by simp [leZ_len h.2.2]
  | [], _ :: _, h => h.elim
  | _ :: _, [], h => h.elim
theorem leZ_get : ∀ {a b : Zl}, leZ a b → ∀ (i : Nat) (p : GIns × Nat), a[i]? = some p → ∃ q, b[i]? = some q ∧ p.1 = q.1 ∧ p.2 ≤ q.2
  | [], [], _, i, p, h => by simp at h
  | x :: a, y :: b, h, 0, p, hp => by simp at hp; subst hp; exact ⟨y, by simp, h.1, h.2.1⟩
  | x :: a, y :: b, h, i + 1, p, hp => by simpa using leZ_get h.2.2 i p (by simpa using hp)
  | [], _ :: _, h, _, _, _ => h.elim
  | _ :: _, [], h, _, _, _ => h.elim
theorem leZ_set : ∀ {z : Zl} {i : Nat} {p : GIns × Nat} {n : Nat}, z[i]? = some p → p.2 ≤ n → leZ z (z.set i (p.1, n))
  | [], i, p, n, h, _ => by simp at h
  | x :: z, 0, p, n, h, hn => by simp at h; subst h; exact ⟨rfl, hn, leZ_refl z⟩
  | x :: z, i + 1, p, n, h, hn => ⟨rfl, Nat.le_refl _, leZ_set (by simpa using h) hn⟩
theorem lenP_mono {p q : GIns × Nat} (h : p.1 = q.1) (k : p.2 ≤ q.2) : lenP p ≤ lenP q := by
  unfold lenP; rw [h]; split
  · exact Nat.le_refl _
  · split <;> omega
theorem leZ_seg : ∀ {a b : Zl}, leZ a b → ∀ i j, i ≤ j → lenZ (a.take j) + lenZ (b.take i) ≤ lenZ (b.take j) + lenZ (a.take i)
  | [], [], _, i, j, _ => by simp
  | p :: a, q :: b, h, 0, 0, _ => by simp
  | p :: a, q :: b, h, 0, j + 1, _ => by
    have := leZ_seg h.2.2 0 j (by omega)
    have := lenP_mono h.1 h.2.1
    simp only [List.take_succ_cons, lenZ_cons, List.take_zero] at *
    simp [lenZ] at *; omega
  | p :: a, q :: b, h, i + 1, j + 1, hij => by
    have := leZ_seg h.2.2 i j (by omega)
    simp only [List.take_succ_cons, lenZ_cons]; omega
  | p :: a, q :: b, h, i + 1, 0, hij => by omega
  | [], _ :: _, h, _, _, _ => h.elim
  | _ :: _, [], h, _, _, _ => h.elim
theorem lenZ_take_le : ∀ (z : Zl) (i j : Nat), i ≤ j → lenZ (z.take i) ≤ lenZ (z.take j)
  | [], i, j, _ => by simp
  | p :: z, 0, j, _ => by simp [lenZ]
  | p :: z, i + 1, j + 1, h => by
    have := lenZ_take_le z i j (by omega)
    simp only [List.take_succ_cons, lenZ_cons]; omega
  | p :: z, i + 1, 0, h => by omega
def labX (n : Int) : Zl → Option Nat
  | [] => none
  | p :: z => if p.1.Op = 38 ∧ p.1.Arg = n then some 0 else (labX n z).map (· + 1)
theorem labX_at (n : Int) : ∀ z : Zl, labAt z n = (labX n z).map fun j => lenZ (z.take j)
  | [] => rfl
  | p :: z => by
    rw [labAt, labX, labX_at n z]
    split
    · simp [lenZ]
    · cases labX n z with
      | none => rfl
      | some j => simp [lenZ_cons]
theorem leZ_labX (n : Int) : ∀ {a b : Zl}, leZ a b → labX n a = labX n b
  | [], [], _ => rfl
  | p :: a, q :: b, h => by rw [labX, labX, h.1, leZ_labX n h.2.2]
  | [], _ :: _, h => h.elim
  | _ :: _, [], h => h.elim
theorem far_mono {a b : Zl} (h : leZ a b) (i : Nat) (x : GIns) (ho : int16B (farI a i x) = false) : int16B (farI b i x) = false := by
  have e : ∀ z : Zl, ((labAt z x.Arg).getD 0 : Nat) = lenZ (z.take ((labX x.Arg z).getD 0)) := fun z => by
    rw [labX_at]; cases labX x.Arg z <;> simp [lenZ]
  unfold int16B farI farZ at *
  rw [e] at *
  rw [← leZ_labX x.Arg h]
  generalize (labX x.Arg a).getD 0 = j at *
  simp only [Bool.and_eq_false_iff, decide_eq_false_iff_not] at *
  rcases Nat.le_total j (i + 1) with hji | hji
  · have h1 := leZ_seg h j (i + 1) hji
    have h3 := lenZ_take_le a j (i + 1) hji
    omega
  · have h1 := leZ_seg h (i + 1) j hji
    have h3 := lenZ_take_le a (i + 1) j hji
    omega
theorem growI_far (z : Zl) (i : Nat) : growI z i = match z[i]? with
  | some p => if jmp p.1.Op = true ∧ p.2 < fitsM (farI z i p.1) then some (z.set i (p.1, fitsM (farI z i p.1))) else none
  | none => none := rfl
theorem bytes_two {n : Int} (h : int16B n = false) : bytesM n = 2 := by unfold int16B at h; unfold bytesM; simp at h; split <;> (try split) <;> omega
theorem bytesM_two (n : Int) : bytesM n ≤ 2 := by unfold bytesM; split <;> (try split) <;> omega
def small2 (z : Zl) : Prop := ∀ p ∈ z, p.2 ≤ 2
def badZ (z : Zl) : Prop := ∃ (i : Nat) (p : GIns × Nat), z[i]? = some p ∧ jmp p.1.Op = true ∧ 3 ≤ p.2
theorem growI_le {z z' : Zl} {i : Nat} (h : growI z i = some z') : leZ z z' := by
  rw [growI_far] at h
  split at h
  · rename_i p hp
    split at h
    · rename_i hc; cases h; exact leZ_set hp (by omega)
    · cases h
  · cases h
theorem growP_le {z z' : Zl} {i : Nat} (h : growP z i = some z') : leZ z z' := by
  unfold growP at h
  split at h
  · rename_i p hp
    split at h
    · rename_i hc; cases h; exact leZ_set hp (by omega)
    · cases h
  · cases h
theorem bad_le {a b : Zl} (h : leZ a b) (k : badZ a) : badZ b := by
  obtain ⟨i, p, h1, h2, h3⟩ := k
  obtain ⟨q, h4, h5, h6⟩ := leZ_get h i p h1
  exact ⟨i, q, h4, by rw [← h5]; exact h2, by omega⟩
theorem out_le {a b : Zl} (h : leZ a b) (k : OutZ a) : OutZ b := by
  obtain ⟨i, p, h1, h2, h3⟩ := k
  obtain ⟨q, h4, h5, h6⟩ := leZ_get h i p h1
  exact ⟨i, q, h4, by rw [← h5]; exact h2, by rw [← h5]; exact far_mono h i p.1 h3⟩
def R3 (a : Zl × Bool) (b : Zl × Bool) : Prop := (a = b ∧ small2 a.1) ∨ (badZ a.1 ∧ OutZ b.1)
theorem grow_rel {z : Zl} (hs : small2 z) (i : Nat) : (growI z i = growP z i ∧ ∀ z', growP z i = some z' → small2 z') ∨ (badZ ((growI z i).getD z) ∧ OutZ ((growP z i).getD z)) := by
  rw [growI_far]
  unfold growP
  cases hp : z[i]? with
  | none => exact .inl ⟨rfl, fun z' h => by cases h⟩
  | some p =>
    dsimp only
    obtain ⟨hi, he⟩ := List.getElem?_eq_some_iff.1 hp
    by_cases hj : jmp p.1.Op = true
    · cases ho : int16B (farI z i p.1) with
      | true =>
        have e : fitsM (farI z i p.1) = bytesM (farI z i p.1) := by unfold fitsM; rw [if_pos ho]
        rw [e]
        refine .inl ⟨rfl, fun z' h => ?_⟩
        split at h
        · cases h
          intro q hq
          rcases List.mem_or_eq_of_mem_set hq with hq | hq
          · exact hs q hq
          · rw [hq]; exact bytesM_two _
        · cases h
      | false =>
        have e : fitsM (farI z i p.1) = 3 := by unfold fitsM; rw [ho]; rfl
        have hp2 := hs p (List.mem_of_getElem? hp)
        rw [e, bytes_two ho, if_pos ⟨hj, by omega⟩]
        have oz : OutZ z := ⟨i, p, hp, hj, ho⟩
        refine .inr ⟨⟨i, (p.1, 3), by simp [hi], hj, Nat.le_refl _⟩, ?_⟩
        split
        · rename_i hc
          exact out_le (leZ_set hp (by omega)) oz
        · exact oz
    · rw [if_neg (fun h => hj h.1), if_neg (fun h => hj h.1)]
      exact .inl ⟨rfl, fun z' h => by cases h⟩
theorem passM_le : ∀ (n i : Nat) (z : Zl) (f : Bool), leZ z (passM n i z f).1
  | 0, i, z, f => leZ_refl z
  | n + 1, i, z, f => by
    rw [passM]
    cases hg : growI z i with
    | none => exact passM_le n (i + 1) z f
    | some z' => exact leZ_trans (growI_le hg) (passM_le n (i + 1) z' true)
theorem passP_le : ∀ (n i : Nat) (z : Zl) (f : Bool), leZ z (passP n i z f).1
  | 0, i, z, f => leZ_refl z
  | n + 1, i, z, f => by
    rw [passP]
    cases hg : growP z i with
    | none => exact passP_le n (i + 1) z f
    | some z' => exact leZ_trans (growP_le hg) (passP_le n (i + 1) z' true)
theorem pass_rel : ∀ (n i : Nat) (z : Zl) (f : Bool), small2 z → R3 (passM n i z f) (passP n i z f)
  | 0, i, z, f, h => .inl ⟨rfl, h⟩
  | n + 1, i, z, f, h => by
    rw [passM, passP]
    rcases grow_rel h i with ⟨e, hs⟩ | ⟨h1, h2⟩
    · rw [e]
      cases hg : growP z i with
      | none => exact pass_rel n (i + 1) z f h
      | some z' => exact pass_rel n (i + 1) z' true (hs z' hg)
    · refine .inr ⟨?_, ?_⟩
      · cases hg : growI z i with
        | none => rw [hg] at h1; exact bad_le (passM_le ..) h1
        | some z' => rw [hg] at h1; exact bad_le (passM_le ..) h1
      · cases hg : growP z i with
        | none => rw [hg] at h2; exact out_le (passP_le ..) h2
        | some z' => rw [hg] at h2; exact out_le (passP_le ..) h2
theorem sizesM_le : ∀ (g : Nat) (z z' : Zl), sizesM g z = some z' → leZ z z'
  | 0, z, z', h => by cases h
  | g + 1, z, z', h => by
    rw [sizesM] at h
    split at h
    · exact leZ_trans (passM_le ..) (sizesM_le g _ _ h)
    · cases h; exact passM_le ..
theorem sizesP_le : ∀ (g : Nat) (z z' : Zl), sizesP g z = some z' → leZ z z'
  | 0, z, z', h => by cases h
  | g + 1, z, z', h => by
    rw [sizesP] at h
    split at h
    · exact leZ_trans (passP_le ..) (sizesP_le g _ _ h)
    · cases h; exact passP_le ..
theorem sizes_rel : ∀ (g g' : Nat) (z a b : Zl), small2 z → sizesM g z = some a → sizesP g' z = some b → (a = b ∧ small2 a) ∨ (badZ a ∧ OutZ b)
  | 0, g', z, a, b, _, h, _ => by cases h
  | g + 1, 0, z, a, b, _, _, h => by cases h
  | g + 1, g' + 1, z, a, b, hs, h, k => by
    rw [sizesM] at h
    rw [sizesP] at k
    rcases pass_rel z.length 0 z false hs with ⟨e, h2⟩ | ⟨h1, h2⟩
    · rw [← e] at k
      split at h
      · rename_i hf
        rw [if_pos hf] at k
        exact sizes_rel g g' _ a b h2 h k
      · rename_i hf
        rw [if_neg hf] at k
        cases h; cases k
        exact .inl ⟨rfl, h2⟩
    · refine .inr ⟨?_, ?_⟩
      · split at h
        · exact bad_le (sizesM_le _ _ _ h) h1
        · cases h; exact h1
      · split at k
        · exact out_le (sizesP_le _ _ _ k) h2
        · cases k; exact h2
theorem growP_sz {z z' : Zl} {i : Nat} (h : growP z i = some z') : szZ z < szZ z' ∧ (small2 z → small2 z') := by
  unfold growP at h
  split at h
  · rename_i p hp
    obtain ⟨hi, he⟩ := List.getElem?_eq_some_iff.1 hp
    split at h
    · rename_i hc
      cases h
      refine ⟨?_, fun hs q hq => ?_⟩
      · unfold szZ
        rw [List.map_set]
        have := set_sum (z.map Prod.snd) i (bytesM (farI z i p.1)) (by simpa using hi)
        simp only [List.getElem_map, he] at this
        have h7 := hc.2
        simp only at this ⊢
        omega
      · rcases List.mem_or_eq_of_mem_set hq with hq | hq
        · exact hs q hq
        · rw [hq]; exact bytesM_two _
    · cases h
  · cases h
theorem passP_sz : ∀ (n i : Nat) (z : Zl) (f : Bool), small2 z → small2 (passP n i z f).1 ∧ szZ z ≤ szZ (passP n i z f).1 ∧ ((passP n i z f).2 = true → f = true ∨ szZ z < szZ (passP n i z f).1)
  | 0, i, z, f, h => ⟨h, Nat.le_refl _, .inl⟩
  | n + 1, i, z, f, h => by
    rw [passP]
    cases hg : growP z i with
    | none => exact passP_sz n (i + 1) z f h
    | some z' =>
      obtain ⟨s1, s2⟩ := growP_sz hg
      obtain ⟨a1, a2, a3⟩ := passP_sz n (i + 1) z' true (s2 h)
      exact ⟨a1, by simp only; omega, fun _ => .inr (by simp only; omega)⟩
theorem szZ_two : ∀ (z : Zl), small2 z → szZ z ≤ 2 * z.length
  | [], _ => by simp [szZ]
  | p :: z, h => by
    have h1 := szZ_two z (fun q hq => h q (by simp [hq]))
    have h2 := h p (by simp)
    simp only [szZ, List.map_cons, List.sum_cons, List.length_cons] at h1 ⊢
    omega
theorem sizesP_ok : ∀ (g : Nat) (z : Zl), small2 z → 2 * z.length < g + szZ z → ∃ z', sizesP g z = some z'
  | 0, z, h, hg => by have := szZ_two z h; omega
  | g + 1, z, h, hg => by
    obtain ⟨a1, a2, a3⟩ := passP_sz z.length 0 z false h
    have hl := leZ_len (passP_le z.length 0 z false)
    rw [sizesP]
    by_cases hb : (passP z.length 0 z false).2 = true
    · rw [if_pos hb]
      have h4 := (a3 hb).resolve_left (by simp)
      exact sizesP_ok g _ a1 (by rw [← hl]; omega)
    · rw [if_neg hb]; exact ⟨_, rfl⟩
theorem outF_iff (w : Zl) : ∀ (i : Nat) (z : Zl), outF w i z = true ↔ ∃ (j : Nat) (p : GIns × Nat), z[j]? = some p ∧ jmp p.1.Op = true ∧ int16B (farI w (i + j) p.1) = false
  | i, [] => by simp [outF]
  | i, p :: z => by
    rw [outF, Bool.or_eq_true, outF_iff w (i + 1) z]
    constructor
    · rintro (h | ⟨j, q, h1, h2, h3⟩)
      · simp only [Bool.and_eq_true, Bool.not_eq_true'] at h
        exact ⟨0, p, rfl, h.1, by simpa using h.2⟩
      · exact ⟨j + 1, q, by simpa using h1, h2, by rw [show i + (j + 1) = i + 1 + j by omega]; exact h3⟩
    · rintro ⟨j, q, h1, h2, h3⟩
      cases j with
      | zero =>
        simp at h1; subst h1
        exact .inl (by simp only [Bool.and_eq_true, Bool.not_eq_true']; exact ⟨h2, by simpa using h3⟩)
      | succ j => exact .inr ⟨j, q, by simpa using h1, h2, by rw [show i + 1 + j = i + (j + 1) by omega]; exact h3⟩
theorem asmP_eq (l : List GIns) : asmP l = asmM l := by
  unfold asmP asmM
  by_cases hw : wrongM l = 0
  · rw [if_neg (by simpa using hw), if_neg (by simpa using hw)]
    have hs : small2 (zipZ l) := by intro p hp; obtain ⟨i, _, rfl⟩ := List.mem_map.1 hp; simp
    have hz : (zipZ l).length = l.length := by simp [zipZ]
    obtain ⟨a, ha, hf, h3, hg⟩ := sizesM_ok (3 * l.length + 1) (zipZ l) (by intro p hp; obtain ⟨i, _, rfl⟩ := List.mem_map.1 hp; exact ⟨by simp, fun _ => by simp⟩) (by rw [hz]; omega)
    obtain ⟨b, hb⟩ := sizesP_ok (3 * l.length + 1) (zipZ l) hs (by rw [hz]; omega)
    rw [ha, hb]
    dsimp only
    rcases sizes_rel _ _ _ _ _ hs ha hb with ⟨rfl, h2⟩ | ⟨h1, h2⟩
    · have e1 : outF a 0 a = false := by
        rw [Bool.eq_false_iff]
        intro ho
        obtain ⟨j, p, k1, k2, k3⟩ := (outF_iff a 0 a).1 ho
        rw [Nat.zero_add] at k3
        have := hg j
        rw [growI_far, k1] at this
        dsimp only at this
        have e : fitsM (farI a j p.1) = 3 := by unfold fitsM; rw [k3]; rfl
        have h5 := h2 p (List.mem_of_getElem? k1)
        rw [e, if_pos ⟨k2, by omega⟩] at this
        cases this
      have e2 : (a.any fun p => jmp p.1.Op && decide (p.2 = 3)) = false := by
        rw [List.any_eq_false]
        intro p hp
        have h5 := h2 p hp
        have : ¬ p.2 = 3 := by omega
        simp [this]
      rw [e1, e2]
    · have e1 : outF b 0 b = true := (outF_iff b 0 b).2 (by obtain ⟨j, p, k1, k2, k3⟩ := h2; exact ⟨j, p, k1, k2, by rw [Nat.zero_add]; exact k3⟩)
      have e2 : (a.any fun p => jmp p.1.Op && decide (p.2 = 3)) = true := by
        obtain ⟨i, p, k1, k2, k3⟩ := h1
        have hm := List.mem_of_getElem? k1
        have h5 := (h3 p hm).1
        rw [List.any_eq_true]
        exact ⟨p, hm, by simp only [Bool.and_eq_true, decide_eq_true_eq]; exact ⟨k2, by omega⟩⟩
      rw [e1, e2]
      simp
  · rw [if_pos hw, if_pos hw]
end Go.Ab

namespace Go.Ab
open Go.Proofs
set_option maxHeartbeats 4000000
set_option maxRecDepth 20000
def namesW : List ByteArray := [⟨#[]⟩, ⟨#[112, 117, 115, 104]⟩, ⟨#[112, 111, 112]⟩, ⟨#[103, 108, 111, 98, 97, 108]⟩, ⟨#[112, 117, 116, 103, 108, 111, 98, 97, 108]⟩, ⟨#[108, 111, 99, 97, 108]⟩, ⟨#[112, 117, 116, 108, 111, 99, 97, 108]⟩, ⟨#[115, 101, 108, 102]⟩, ⟨#[98, 105, 110]⟩, ⟨#[110, 101, 103]⟩, ⟨#[110, 111, 116]⟩, ⟨#[116, 101, 115, 116]⟩, ⟨#[104, 97, 115]⟩, ⟨#[112, 114, 111, 112]⟩, ⟨#[112, 117, 116]⟩, ⟨#[115, 101, 116]⟩, ⟨#[117, 110, 115, 101, 116]⟩, ⟨#[109, 111, 118, 101]⟩, ⟨#[114, 101, 109, 111, 118, 101]⟩, ⟨#[116, 114, 101, 101]⟩, ⟨#[114, 97, 110, 100, 111, 109]⟩, ⟨#[116, 101, 120, 116]⟩, ⟨#[110, 117, 109]⟩, ⟨#[116, 105, 116, 108, 101]⟩, ⟨#[106, 117, 109, 112]⟩, ⟨#[122, 101, 114, 111]⟩, ⟨#[99, 97, 108, 108]⟩, ⟨#[114, 101, 116, 117, 114, 110]⟩, ⟨#[115, 116, 111, 112]⟩, ⟨#[119, 105, 110]⟩, ⟨#[108, 111, 115, 101]⟩, ⟨#[97, 119, 97, 114, 100]⟩, ⟨#[115, 116, 97, 114, 116]⟩, ⟨#[104, 97, 108, 116]⟩, ⟨#[116, 114, 97, 118, 101, 108]⟩, ⟨#[108, 111, 111, 107]⟩, ⟨#[108, 105, 115, 116]⟩, ⟨#[116, 105, 99, 107]⟩, ⟨#[108, 97, 98, 101, 108]⟩]
@[simp] theorem names_ons : V.ons [] (List.map (fun s => V.d (D.v (Value.string s))) namesW) = true := rfl
theorem opNames_ok : Pure Tryz.prog 162 [] (.agg (namesW.map fun s => .d (.v (.string s)))) := by
  refine Pure.run Tryz.func162 rfl (by simp [Tryz.f162]) ?_; simp [-cB, Tryz.f162]
  rfl
def nameW (n : Int) : ByteArray := if 1 ≤ n ∧ n ≤ 38 then (namesW[n.toNat]?).getD ⟨#[]⟩ else ⟨#[]⟩
theorem names_no : ∀ k : Fin 39, 1 ≤ k.1 → (namesW[k.1]?).getD ⟨#[]⟩ ≠ (⟨#[]⟩ : ByteArray) := by decide
theorem nameW_nil (n : Int) : nameW n = ⟨#[]⟩ ↔ ¬ (1 ≤ n ∧ n ≤ 38) := by
  unfold nameW
  by_cases h : 1 ≤ n ∧ n ≤ 38
  · rw [if_pos h]
    have := names_no ⟨n.toNat, by omega⟩ (by show 1 ≤ n.toNat; omega)
    exact ⟨fun e => absurd e this, fun e => absurd h e⟩
  · rw [if_neg h]; simp [h]
theorem opName_ok (n : Int) : Pure Tryz.prog 126 [intD n] (.d (.v (.string (nameW n)))) := by
  have hk := opKnown_ok n
  by_cases h : 1 ≤ n ∧ n ≤ 38
  · have hkb : (decide (1 ≤ n) && decide (n ≤ 38)) = true := by simp; omega
    have hl : n.toNat < namesW.length := by simp [namesW]; omega
    have e : nameW n = namesW[n.toNat] := by unfold nameW; rw [if_pos h]; simp [hl]
    rw [e]
    refine Pure.run Tryz.func126 rfl (by simp [Tryz.f126]) ?_; simp [-cB, Tryz.f126]
    refine AOps.pureC rfl (hk) rfl rfl (by simp) rfl ?_
    simp [-cB, hkb]
    refine AOps.pureC rfl (opNames_ok) rfl rfl (by simp) rfl ?_
    simp [-cB]
    refine ⟨⟨by omega, rfl⟩, ?_⟩
    rw [List.getElem?_eq_getElem hl]; rfl
  · have hkb : (decide (1 ≤ n) && decide (n ≤ 38)) = false := by simp; omega
    have e : nameW n = ⟨#[]⟩ := (nameW_nil n).2 h
    rw [e]
    refine Pure.run Tryz.func126 rfl (by simp [Tryz.f126]) ?_; simp [-cB, Tryz.f126]
    refine AOps.pureC rfl (hk) rfl rfl (by simp) rfl ?_
    simp [-cB, hkb]
theorem asks_ok (i : GIns) : Pure Tryz.prog 82 [.agg (i.enc.map .d)] (boolD (jmp i.Op)) := by
  unfold jmp
  refine Pure.run Tryz.func82 rfl (by simp [Tryz.f82]) ?_; simp [-cB, Tryz.f82]
theorem need_ok (n : Int) : Pure Tryz.prog 131 [intD n] (intD (bytesM n)) := by
  unfold bytesM
  by_cases h0 : n = 0
  · subst h0
    refine Pure.run Tryz.func131 rfl (by simp [Tryz.f131]) ?_; simp [-cB, Tryz.f131]
  · by_cases h1 : -128 ≤ n ∧ n ≤ 127
    · refine Pure.run Tryz.func131 rfl (by simp [Tryz.f131]) ?_; simp [-cB, Tryz.f131]
      repeat' (first
        | (with_reducible refine And.intro ?_ ?_)
        | (refine condC_split (fun h => ?_) (fun h => ?_) <;> (try simp at h) <;> (try simp [-cB, *]))
        | (with_reducible intro _))
      all_goals (try omega)
    · refine Pure.run Tryz.func131 rfl (by simp [Tryz.f131]) ?_; simp [-cB, Tryz.f131]
      repeat' (first
        | (with_reducible refine And.intro ?_ ?_)
        | (refine condC_split (fun h => ?_) (fun h => ?_) <;> (try simp at h) <;> (try simp [-cB, *]))
        | (with_reducible intro _))
      all_goals (try omega)
def setK (ks : List Int) : List (Int × Bool) := ks.foldl (fun m k => lput m k true) []
theorem map_look {α : Type} (k j : Int) (a : α) : ∀ l : List (Int × α), (l.map (fun p => if p.1 == k then (k, a) else p)).lookup j = if j = k then (if l.any (fun p => p.1 == k) = true then some a else none) else l.lookup j
  | [] => by simp
  | p :: l => by
    rw [List.map_cons]
    by_cases hp : p.1 = k
    · have e : (p.1 == k) = true := by simpa using hp
      simp only [e, if_true, List.any_cons, Bool.true_or]
      by_cases hj : j = k
      · simp [hj, List.lookup_cons]
      · have e1 : (j == k) = false := by simpa using hj
        rw [if_neg hj, List.lookup_cons, List.lookup_cons, e1, hp, e1]
        simp only [Bool.false_eq_true, if_false]
        rw [map_look k j a l, if_neg hj]
    · have e : (p.1 == k) = false := by simpa using hp
      simp only [e, Bool.false_eq_true, if_false, List.any_cons, Bool.false_or]
      obtain ⟨x, y⟩ := p
      by_cases hj : j = x
      · have hjk : ¬ j = k := by rw [hj]; exact hp
        simp [hj, List.lookup_cons, hp]
        try (intro h; exact absurd h hp)
      · have e1 : (j == x) = false := by simpa using hj
        rw [List.lookup_cons, List.lookup_cons, e1]
        simp only [Bool.false_eq_true, if_false]
        exact map_look k j a l
theorem lput_look {α : Type} (l : List (Int × α)) (k j : Int) (a : α) : (lput l k a).lookup j = if j = k then some a else l.lookup j := by
  unfold lput
  split
  · next h =>
    rw [map_look, h]; rfl
  · next h =>
    rw [List.lookup_append]
    by_cases hj : j = k
    · have : l.lookup j = none := by
        rw [List.lookup_eq_none_iff]
        intro p hp
        rw [Bool.not_eq_true, List.any_eq_false] at h
        have := h p hp
        simp at this ⊢
        rw [hj]; exact fun e => this e.symm
      rw [this, if_pos hj]; simp [hj]
    · have e1 : (j == k) = false := by simpa using hj
      rw [if_neg hj]; simp [List.lookup_cons, e1]
theorem setK_app (a : List Int) (k : Int) : setK (a ++ [k]) = lput (setK a) k true := by simp [setK]
theorem fold_look (j : Int) : ∀ (a : List Int) (m : List (Int × Bool)), (a.foldl (fun m k => lput m k true) m).lookup j = if a.contains j = true then some true else m.lookup j
  | [], m => by simp
  | k :: a, m => by
    rw [List.foldl_cons, fold_look j a, lput_look, List.contains_cons]
    by_cases hj : j = k
    · simp [hj]
    · have e : (j == k) = false := by simpa using hj
      simp [hj, e]
theorem setK_look (a : List Int) (j : Int) : (setK a).lookup j = if a.contains j = true then some true else none := by
  unfold setK; rw [fold_look]; rfl
end Go.Ab

namespace Go.Ab
open Go.Proofs
set_option maxHeartbeats 4000000
set_option maxRecDepth 20000
def bolE (b : Bool) : D := .v (.bool b)
def setM (a : List Int) : List ME := encM1 bolE (setK a)
@[simp] theorem setM_fits (a : List Int) : fitsAll (.int .i64) (setM a) = true := fits_encM1 _ _
@[simp] theorem setM_look (a : List Int) (j : Int) : mlook (setM a) (.int .i64 j) = if a.contains j = true then some (boolV true) else none := by
  unfold setM
  rw [mlook_encM1, setK_look]
  split <;> rfl
@[simp] theorem setM_put (a : List Int) (j : Int) : mput (setM a) (.int .i64 j) false [.v (.bool true)] = setM (a ++ [j]) := by
  unfold setM
  rw [setK_app]; exact mput_encM1 bolE _ _ _
@[simp] theorem getD_set (b : Prop) [Decidable b] : (if b then some (V.d (D.v (Value.bool true))) else none).getD (V.d (D.v (Value.bool false))) = V.d (D.v (Value.bool (decide b))) := by by_cases h : b <;> simp [h]
theorem j38 : jmp 38 = false := rfl
@[simp] theorem setM_nil : setM [] = [] := rfl
theorem labsL_snoc (l : List GIns) (x : GIns) : labsL (l ++ [x]) = labsL l ++ (if x.Op = 38 then [x.Arg] else []) := by
  rw [labsL_app]
  congr 1
  unfold labsL isLab
  by_cases h : x.Op = 38 <;> simp [h]
theorem empB : (⟨#[]⟩ : ByteArray).toList = [] := by rw [ByteArray.toList_eq]
theorem int16_eq (n : Int) : int16 n = int16B n := rfl
theorem nameE (n : Int) : (nameW n).toList.isEmpty = decide (n < 1 ∨ 38 < n) := by
  rw [Bool.eq_iff_iff, List.isEmpty_iff, decide_eq_true_eq]
  have h := nameW_nil n
  constructor
  · intro e
    have : nameW n = ⟨#[]⟩ := (bytes_toList _ _).1 (e.trans empB.symm)
    have := h.1 this
    omega
  · intro e
    rw [h.2 (by omega)]
    exact empB
theorem wrongI_rest {l pre : List GIns} {x : GIns} (hj : jmp x.Op = false) (h38 : ¬ x.Op = 38) : wrongI l pre x = if ((nameW x.Op).toList.isEmpty || (!int16B x.Arg || (!hasA x.Op && !decide (x.Arg = 0)))) = true then 16 else 0 := by
  unfold wrongI
  rw [nameE, if_neg (by rw [hj]; simp), if_neg (fun h => h38 h.1), if_neg (by rw [hj]; simp [h38])]
  cases int16B x.Arg <;> cases hasA x.Op <;> by_cases h0 : x.Arg = 0 <;> by_cases h1 : x.Op < 1 <;> by_cases h2 : 38 < x.Op <;> simp [h0, h1, h2]
theorem wrong_ok (l : List GIns) (hl : l.length ≤ 1000000000) : Pure Tryz.prog 80 [.d (.sl (l.map GIns.enc))] (.d (.v (.int .i64 (wrongM l)))) := by
  refine Pure.run Tryz.func80 rfl (by simp [Tryz.f80]) ?_; simp [-cB, Tryz.f80]
  refine AWP.loopL [0, 3, 10, 11, 12] l (fun pre => [(12, .d (.v (.int .i64 pre.length)))]) (fun pre => [(9, .mp (setM (labsL pre)))]) (fun _ => True) (by rfl) (by omega) (by simp [labsL]) ?_ ?_
  · rintro pre x post hsp - hlt hge a4
    clear hsp
    have hs := labsL_snoc pre x
    by_cases h38 : x.Op = 38
    · simp [h38] at hs
      simp [-cB, *]
    · simp [h38] at hs
      simp [-cB, *]
  · intro _
    simp [-cB]
    refine AWP.loopL [3, 6, 24, 25, 26] l (fun pre => [(26, .d (.v (.int .i64 pre.length)))]) (fun pre => [(9, .mp (setM (labsL l))), (23, .mp (setM (labsL pre)))]) (fun pre => wrongF l pre (l.drop pre.length) = wrongM l) (by rfl) (by omega) (by simp [labsL, wrongM]) ?_ ?_
    · rintro pre x post hsp hw hlt hge a4
      have hpost : l.drop pre.length = x :: post := by rw [hsp]; simp
      rw [hpost, wrongF] at hw
      have hs := labsL_snoc pre x
      have hpx : l.drop (pre.length + 1) = post := by rw [hsp]; simp
      have ha := asks_ok x
      clear hsp hpost
      cases hj : jmp x.Op with
      | true =>
        have h38 : ¬ x.Op = 38 := by unfold jmp at hj; simp at hj; omega
        rw [if_neg h38, List.append_nil] at hs
        cases hc : (labsL l).contains x.Arg with
        | false =>
          have hw2 : wrongI l pre x = 11 := by unfold wrongI; rw [if_pos ⟨hj, hc⟩]
          rw [hw2, if_neg (by decide)] at hw
          simp [-cB, hlt, hge, a4]
          intro bs
          refine AOps.pureC rfl (ha) rfl rfl (by simp) rfl ?_
          simp only [List.contains_eq_mem] at hc
          simp [-cB, hj, hc, ← hw]
        | true =>
          have hw2 : wrongI l pre x = 0 := by unfold wrongI; rw [if_neg (by rw [hc]; simp), if_neg (fun h => h38 h.1), if_pos (.inr hj)]
          rw [hw2, if_pos rfl] at hw
          simp [-cB, hlt, hge, a4]
          intro bs
          refine AOps.pureC rfl (ha) rfl rfl (by simp) rfl ?_
          simp only [List.contains_eq_mem] at hc
          simp [-cB, hj, hc, h38, j38]
          refine AOps.pureC rfl (ha) rfl rfl (by simp) rfl ?_
          simp [-cB, hj, hc, h38, j38, hs, a4, hpx, hw]
      | false =>
        by_cases h38 : x.Op = 38
        · rw [if_pos h38] at hs
          cases hc : (labsL pre).contains x.Arg with
          | true =>
            have hw2 : wrongI l pre x = 10 := by unfold wrongI; rw [if_neg (by rw [hj]; simp), if_pos ⟨h38, hc⟩]
            rw [hw2, if_neg (by decide)] at hw
            simp [-cB, hlt, hge, a4]
            intro bs
            refine AOps.pureC rfl (ha) rfl rfl (by simp) rfl ?_
            simp only [List.contains_eq_mem] at hc
            simp [-cB, hj, hc, h38, j38, ← hw]
          | false =>
            have hw2 : wrongI l pre x = 0 := by unfold wrongI; rw [if_neg (by rw [hj]; simp), if_neg (by rw [hc]; simp), if_pos (.inl h38)]
            rw [hw2, if_pos rfl] at hw
            simp [-cB, hlt, hge, a4]
            intro bs
            refine AOps.pureC rfl (ha) rfl rfl (by simp) rfl ?_
            simp only [List.contains_eq_mem] at hc
            simp [-cB, hj, hc, h38, j38, hs, a4, hpx, hw]
        · rw [if_neg h38, List.append_nil] at hs
          have hw2 := wrongI_rest (l := l) (pre := pre) hj h38
          have hI := wIs_ok x.Arg
          have hH := opHas_ok x.Op
          rw [int16_eq] at hI
          obtain ⟨E, hE⟩ : ∃ E, (nameW x.Op).toList.isEmpty = E := ⟨_, rfl⟩
          obtain ⟨I, hI2⟩ : ∃ I, int16B x.Arg = I := ⟨_, rfl⟩
          obtain ⟨H, hH2⟩ : ∃ H, hasA x.Op = H := ⟨_, rfl⟩
          rw [hE, hI2, hH2] at hw2
          rw [hI2] at hI
          rw [hH2] at hH
          rw [hw2] at hw
          clear hw2
          simp [-cB, hlt, hge, a4]
          intro bs
          refine AOps.pureC rfl (ha) rfl rfl (by simp) rfl ?_
          simp [-cB, hj, h38]
          refine AOps.pureC rfl (ha) rfl rfl (by simp) rfl ?_
          simp [-cB, hj, h38]
          refine AOps.pureC rfl ((opName_ok x.Op)) rfl rfl (by simp) rfl ?_
          simp [-cB, hE]
          cases E with
          | true =>
            refine AOps.pureG rfl (fun h => hI) rfl (by first | rfl | (simp; done) | (simp; rfl)) (by simp) (by simp) rfl ?_
            simp [-cB]
            refine AOps.pureG rfl (fun h => hH) rfl (by first | rfl | (simp; done) | (simp; rfl)) (by simp) (by simp) rfl ?_
            simp [-cB] at hw ⊢
            exact hw
          | false =>
            refine AOps.pureG rfl (fun h => hI) rfl (by first | rfl | (simp; done) | (simp; rfl)) (by simp) (by simp) rfl ?_
            simp [-cB]
            cases I with
            | false =>
              refine AOps.pureG rfl (fun h => hH) rfl (by first | rfl | (simp; done) | (simp; rfl)) (by simp) (by simp) rfl ?_
              simp [-cB] at hw ⊢
              exact hw
            | true =>
              refine AOps.pureG rfl (fun h => hH) rfl (by first | rfl | (simp; done) | (simp; rfl)) (by simp) (by simp) rfl ?_
              simp [-cB] at hw ⊢
              cases H with
              | true =>
                simp [-cB] at hw ⊢
                exact ⟨a4, by rw [hs], by rw [hpx]; exact hw⟩
              | false =>
                by_cases h0 : x.Arg = 0
                · simp [-cB, h0] at hw ⊢
                  exact ⟨a4, by rw [hs], by rw [hpx]; exact hw⟩
                · have hb : (x.Arg != 0) = true := by simpa using h0
                  simp [-cB, h0, hb] at hw ⊢
                  exact hw
    · intro hw
      rw [List.drop_length] at hw
      have hw2 : 0 = wrongM l := hw
      simp [-cB, hw2]
end Go.Ab

namespace Go.Ab
open Go.Proofs
def szL (z : Zl) : List Int := z.map fun p => (lenP p : Int)
def placeK : List (Int × Int) → Zl → Nat → List (Int × Int)
  | M, [], _ => M
  | M, p :: z, n => placeK (if p.1.Op = 38 then lput M p.1.Arg (n : Int) else M) z (n + lenP p)
theorem placeK_snoc (p : GIns × Nat) : ∀ (z : Zl) (M : List (Int × Int)) (n : Nat), placeK M (z ++ [p]) n = if p.1.Op = 38 then lput (placeK M z n) p.1.Arg ((n + lenZ z : Nat) : Int) else placeK M z n
  | [], M, n => by simp [placeK, lenZ]
  | q :: z, M, n => by
    rw [List.cons_append, placeK, placeK_snoc p z, placeK, lenZ_cons, Nat.add_assoc]
theorem labAt_mem : ∀ (z : Zl) (n : Int) (k : Nat), labAt z n = some k → n ∈ labsL (z.map Prod.fst)
  | [], n, k, h => by cases h
  | p :: z, n, k, h => by
    rw [labAt] at h
    rw [mem_labsL]
    split at h
    · rename_i hp; exact ⟨p.1, by simp, hp.1, hp.2⟩
    · obtain ⟨k', hk, -⟩ := Option.map_eq_some_iff.1 h
      obtain ⟨i, h1, h2⟩ := mem_labsL.1 (labAt_mem z n k' hk)
      exact ⟨i, by simp at h1 ⊢; exact .inr h1, h2⟩
theorem labAt_le : ∀ (z : Zl) (n : Int) (k : Nat), labAt z n = some k → k ≤ lenZ z
  | [], n, k, h => by cases h
  | p :: z, n, k, h => by
    rw [labAt] at h
    rw [lenZ_cons]
    split at h
    · cases h; omega
    · obtain ⟨k', hk, rfl⟩ := Option.map_eq_some_iff.1 h
      have := labAt_le z n k' hk
      omega
theorem labAt_none {z : Zl} {n : Int} (h : n ∉ labsL (z.map Prod.fst)) : labAt z n = none := by
  cases hl : labAt z n with
  | none => rfl
  | some k => exact absurd (labAt_mem z n k hl) h
theorem placeK_look (j : Int) : ∀ (z : Zl) (M : List (Int × Int)) (n : Nat), (labsL (z.map Prod.fst)).Nodup → (placeK M z n).lookup j = match labAt z j with
    | some k => some ((n + k : Nat) : Int)
    | none => M.lookup j
  | [], M, n, _ => rfl
  | p :: z, M, n, h => by
    rw [placeK, labAt]
    have hn : (labsL (z.map Prod.fst)).Nodup := by
      rw [List.map_cons, show p.1 :: z.map Prod.fst = [p.1] ++ z.map Prod.fst from rfl, labsL_app, List.nodup_append] at h
      exact h.2.1
    rw [placeK_look j z _ _ hn]
    by_cases h38 : p.1.Op = 38
    · rw [if_pos h38]
      by_cases hj : p.1.Arg = j
      · rw [if_pos ⟨h38, hj⟩]
        have : labAt z j = none := by
          refine labAt_none fun hq => ?_
          rw [List.map_cons, show p.1 :: z.map Prod.fst = [p.1] ++ z.map Prod.fst from rfl, labsL_app, List.nodup_append] at h
          exact h.2.2 j (mem_labsL.2 ⟨p.1, by simp, h38, hj⟩) j hq rfl
        rw [this, lput_look, if_pos hj.symm]
        simp
      · rw [if_neg (fun e => hj e.2)]
        cases labAt z j with
        | some k => simp [Nat.add_assoc]
        | none => simp only [Option.map_none]; rw [lput_look, if_neg (fun e => hj e.symm)]
    · rw [if_neg h38, if_neg (fun e => h38 e.1)]
      cases labAt z j with
      | some k => simp [Nat.add_assoc]
      | none => rfl
theorem wrongF_nodup (l : List GIns) : ∀ (r a : List GIns), wrongF l a r = 0 → (labsL a).Nodup → (labsL (a ++ r)).Nodup
  | [], a, _, h => by simpa using h
  | x :: r, a, hw, h => by
    rw [wrongF] at hw
    split at hw
    · rename_i h0
      have := wrongF_nodup l r (a ++ [x]) hw ?_
      · simpa using this
      · rw [labsL_app, List.nodup_append]
        refine ⟨h, ?_, ?_⟩
        · unfold labsL; by_cases hx : isLab x = true <;> simp [hx]
        · rintro u hu v hv rfl
          obtain ⟨i, hi, h38, harg⟩ := mem_labsL.1 hv
          obtain rfl : i = x := by simpa using hi
          unfold wrongI at h0
          have hjm : jmp i.Op = false := by rw [h38]; rfl
          rw [if_neg (by rw [hjm]; simp), if_pos ⟨h38, by rw [harg]; simpa using hu⟩] at h0
          omega
    · rename_i h0; exact (h0 hw).elim
theorem wrongM_nodup {l : List GIns} (h : wrongM l = 0) : (labsL l).Nodup := by simpa using wrongF_nodup l l [] h (by simp [labsL])
structure Lay where
  z : Zl
  at_ : List Int
  M : List (Int × Int)
def Lay.place (y : Lay) : Lay := ⟨y.z, atL y.z (y.z.length + 1), placeK y.M y.z 0⟩
def Lay.Ok (y : Lay) (l : List GIns) : Prop := y.z.map Prod.fst = l ∧ y.at_.length = l.length + 1 ∧ (∀ j, (y.M.lookup j).isSome → j ∈ labsL l) ∧ small2 y.z
def growY (y : Lay) (b : Bool) (k : Nat) : Lay × Bool :=
  match y.z[k]? with
  | some p => if jmp p.1.Op = true then (match growP y.z k with
    | some z' => (⟨z', y.place.at_, y.place.M⟩, true)
    | none => (y.place, b)) else (y, b)
  | none => (y, b)
def growT (y : Lay) : Nat → Lay × Bool
  | 0 => (y, false)
  | k + 1 => growY (growT y k).1 (growT y k).2 k
theorem growP_fst {z z' : Zl} {i : Nat} (h : growP z i = some z') : z'.map Prod.fst = z.map Prod.fst := by
  unfold growP at h
  split at h
  · rename_i p hp
    split at h
    · cases h
      rw [List.map_set]
      obtain ⟨hi, he⟩ := List.getElem?_eq_some_iff.1 hp
      refine List.ext_getElem (by simp) fun j h1 h2 => ?_
      rw [List.getElem_set]
      split
      · rename_i e; subst e; simp [he]
      · rfl
    · cases h
  · cases h
theorem lay_place {y : Lay} {l : List GIns} (hu : (labsL l).Nodup) (h : y.Ok l) : y.place.Ok l ∧ ∀ j, (y.place.M.lookup j) = Option.map (fun k : Nat => (k : Int)) (labAt y.z j) := by
  obtain ⟨h1, h2, h3, h4⟩ := h
  have hl : y.z.length = l.length := by rw [← h1, List.length_map]
  have key : ∀ j, (y.place.M.lookup j) = Option.map (fun k : Nat => (k : Int)) (labAt y.z j) := by
    intro j
    show (placeK y.M y.z 0).lookup j = _
    rw [placeK_look j y.z y.M 0 (by rw [h1]; exact hu)]
    cases hj : labAt y.z j with
    | some k => simp
    | none =>
      cases hm : y.M.lookup j with
      | none => rfl
      | some v =>
        have := labAt_some y.z j (by rw [h1]; exact h3 j (by rw [hm]; rfl))
        rw [hj] at this; cases this
  refine ⟨⟨h1, by show (atL _ _).length = _; rw [atL_len, hl], fun j hj => ?_, h4⟩, key⟩
  rw [key j, Option.isSome_map] at hj
  obtain ⟨k, hk⟩ := Option.isSome_iff_exists.1 hj
  rw [← h1]
  exact labAt_mem _ _ _ hk
theorem growY_ok {y : Lay} {l : List GIns} (hu : (labsL l).Nodup) (h : y.Ok l) (b : Bool) (k : Nat) : (growY y b k).1.Ok l := by
  unfold growY
  split
  · split
    · split
      · rename_i z' hz
        have hp := (lay_place hu h).1
        refine ⟨by rw [growP_fst hz]; exact h.1, hp.2.1, hp.2.2.1, (growP_sz hz).2 h.2.2.2⟩
      · exact (lay_place hu h).1
    · exact h
  · exact h
theorem growT_ok {y : Lay} {l : List GIns} (hu : (labsL l).Nodup) (h : y.Ok l) : ∀ k, (growT y k).1.Ok l
  | 0 => h
  | k + 1 => growY_ok hu (growT_ok hu h k) _ _
theorem passP_snoc : ∀ (n i : Nat) (z : Zl) (b : Bool), passP (n + 1) i z b = match growP (passP n i z b).1 (i + n) with
    | some z' => (z', true)
    | none => passP n i z b
  | 0, i, z, b => by
    simp only [passP, Nat.add_zero]
    try (cases growP z i <;> rfl)
  | n + 1, i, z, b => by
    rw [passP]
    conv => rhs; rw [passP]
    cases growP z i with
    | none => simp only; rw [passP_snoc n (i + 1) z b, Nat.add_right_comm i 1 n, Nat.add_assoc i n 1]
    | some z' => simp only; rw [passP_snoc n (i + 1) z' true, Nat.add_right_comm i 1 n, Nat.add_assoc i n 1]
theorem growT_pass (y : Lay) : ∀ k, ((growT y k).1.z, (growT y k).2) = passP k 0 y.z false
  | 0 => rfl
  | k + 1 => by
    rw [passP_snoc, Nat.zero_add]
    have ih := growT_pass y k
    rw [← ih]
    show ((growY (growT y k).1 (growT y k).2 k).1.z, (growY (growT y k).1 (growT y k).2 k).2) = _
    generalize growT y k = yb
    obtain ⟨y', b⟩ := yb
    unfold growY
    simp only
    cases hk : y'.z[k]? with
    | none =>
      have : growP y'.z k = none := by unfold growP; rw [hk]
      rw [this]
    | some p =>
      simp only
      by_cases hj : jmp p.1.Op = true
      · rw [if_pos hj]
        cases growP y'.z k <;> rfl
      · have : growP y'.z k = none := by unfold growP; rw [hk]; simp only; rw [if_neg (fun e => hj e.1)]
        rw [if_neg hj, this]
end Go.Ab

namespace Go.Ab
open Go.Proofs
set_option maxHeartbeats 4000000
set_option maxRecDepth 20000
def intE (n : Int) : D := .v (.int .i64 n)
def lM (M : List (Int × Int)) : List ME := encM1 intE M
@[simp] theorem lM_fits (a : List (Int × Int)) : fitsAll (.int .i64) (lM a) = true := fits_encM1 _ _
@[simp] theorem lM_look (a : List (Int × Int)) (j : Int) : mlook (lM a) (.int .i64 j) = (a.lookup j).map fun n => .d (.v (.int .i64 n)) := by
  unfold lM
  rw [mlook_encM1]; rfl
@[simp] theorem lM_put (a : List (Int × Int)) (j n : Int) : mput (lM a) (.int .i64 j) false [.v (.int .i64 n)] = lM (lput a j n) := mput_encM1 intE _ _ _
@[simp] theorem lM_nil : lM [] = [] := rfl
def layH (wb : Nat) (l : List GIns) (y : Lay) : Heap :=
  [(5301, .box (wb + 1) 114 [.d (.sl (l.map GIns.enc)), .rv 5302, .rv 5303, .rv 5304]), (5302, .row 3 1 (dd (encI (szL y.z)))), (5303, .row 3 1 (dd (encI y.at_))), (5304, .mp (lM y.M))]
theorem small3 {z : Zl} (h : small2 z) : ∀ p ∈ z, p.2 ≤ 3 := fun p hp => by have := h p hp; omega
theorem lay_len {l : List GIns} {z : Zl} (h : z.map Prod.fst = l) : z.length = l.length := by rw [← h, List.length_map]
theorem asmPlace_ok (wb : Nat) (l : List GIns) (hl : l.length ≤ 1000000000) (y : Lay) (hy : y.Ok l) :
    ACalls Tryz.prog 84 [.bp 5301 0] (layH wb l y) (fun r L => r = .ret (.tup []) ∧ L = layH wb l y.place) := by
  obtain ⟨h1, h2, -, h4⟩ := hy
  have hzl := lay_len h1
  unfold layH Lay.place
  obtain ⟨z, at_, M⟩ := y
  simp only at h1 h2 h4 hzl ⊢
  refine ACalls.runX [] [5301, 5302, 5303, 5304] Tryz.func84 rfl (by simp [Tryz.f84]) ?_; simp [-cB, Tryz.f84]
  refine AWP.loopL [0, 2, 8, 9, 10] l (fun pre => [(2, .d (.v (.int .i64 (lenZ (z.take pre.length))))), (10, .d (.v (.int .i64 pre.length)))]) (fun pre => [(5303, .row 3 1 (dd (encI (atL z pre.length ++ at_.drop pre.length)))), (5304, .mp (lM (placeK M (z.take pre.length) 0)))]) (fun _ => True) (by rfl) (by omega) (by simp [atL, lenZ, placeK]) ?_ ?_
  · rintro pre x post hsp - hlt hge a4
    have hk : pre.length < z.length := by omega
    have hz : z[pre.length]? = some z[pre.length] := List.getElem?_eq_getElem hk
    have hzx : z[pre.length].1 = x := by
      have : (z.map Prod.fst)[pre.length]? = some x := by rw [h1, hsp]; simp
      rw [List.getElem?_map, hz] at this
      exact Option.some.inj this
    have hb : lenZ (z.take pre.length) ≤ 4 * pre.length := by
      have := lenZ_le (z.take pre.length) (fun p hp => small3 h4 p (List.mem_of_mem_take hp))
      rw [List.length_take] at this; omega
    have hls := lenZ_succ z pre.length hk
    have hp := lenP_le z[pre.length] (small3 h4 _ (List.getElem_mem hk))
    have hsz : (szL z)[pre.length]? = some (lenP z[pre.length] : Int) := by simp [szL, hz]
    have htk : z.take (pre.length + 1) = z.take pre.length ++ [z[pre.length]] := by rw [List.take_add_one, hz]; rfl
    have hpl := placeK_snoc z[pre.length] (z.take pre.length) M 0
    rw [← htk, hzx, Nat.zero_add] at hpl
    have hat : (atL z pre.length ++ at_.drop pre.length).set pre.length (lenZ (z.take pre.length) : Int) = atL z (pre.length + 1) ++ at_.drop (pre.length + 1) := by
      rw [atL_succ, List.append_assoc, List.set_append_right _ _ (by rw [atL_len]; exact Nat.le_refl _), atL_len, Nat.sub_self]
      congr 1
      rw [List.drop_eq_getElem_cons (by omega)]; rfl
    have hal : (atL z pre.length ++ at_.drop pre.length).length = l.length + 1 := by rw [List.length_append, atL_len, List.length_drop]; omega
    have hsl : (szL z).length = l.length := by simp [szL, hzl]
    have hsg : ∀ h : pre.length < (szL z).length, (szL z)[pre.length]'h = (lenP z[pre.length] : Int) := fun h => by simp [szL]
    have hlt2 : pre.length < l.length + 1 := by omega
    have a5 : inR .i64 ((lenZ (z.take pre.length) : Int) + (lenP z[pre.length] : Int)) := by rw [inR_i64]; omega
    clear hsp
    by_cases h38 : x.Op = 38
    · rw [if_pos h38] at hpl
      simp [-cB, hlt, hge, hal, hat, h38, hlt2]
      intro bs
      refine AWP.regionM0 [some (0, 0), some (0, 0), some (0, 0), some (0, 0), some (0, 0), some (0, 0), some (0, 0), none] [] Tryz.mixed (by kernel_rfl) ?_
      simp [-cB, hlt, hsl, hsz, hsg, a4, a5, hls, hpl]
    · rw [if_neg h38] at hpl
      simp [-cB, hlt, hge, hal, hat, h38, hlt2, hsl, hsz, hsg, a4, a5, hls, hpl]
  · intro _
    simp [-cB]
    have hal : (atL z l.length ++ at_.drop l.length).length = l.length + 1 := by rw [List.length_append, atL_len, List.length_drop]; omega
    have hat : (atL z l.length ++ at_.drop l.length).set l.length (lenZ (z.take l.length) : Int) = atL z (l.length + 1) := by
      rw [atL_succ, List.set_append_right _ _ (by rw [atL_len]; exact Nat.le_refl _), atL_len, Nat.sub_self]
      congr 1
      rw [List.drop_eq_getElem_cons (by omega), List.drop_of_length_le (by omega)]; rfl
    have htz : z.take l.length = z := List.take_of_length_le (by omega)
    refine AWP.regionM0 [some (0, 0), some (0, 0), some (0, 0), some (0, 0), some (0, 0), some (0, 0), some (0, 0), some (0, 0), some (0, 0), some (0, 0), some (0, 0), none] [] Tryz.mixed (by kernel_rfl) ?_
    simp [-cB, hal, hat, hzl]
    rw [htz]
theorem asmFar_ok (wb : Nat) (l : List GIns) (hl : l.length ≤ 1000000000) (y : Lay) (hu : (labsL l).Nodup) (hy : y.Ok l) (k : Nat) (hk : k < l.length) :
    ACalls Tryz.prog 85 [.bp 5301 0, .d (.v (.int .i64 k))] (layH wb l y.place) (fun r L => r = .ret (.d (.v (.int .i64 (farI y.z k l[k])))) ∧ L = layH wb l y.place) := by
  obtain ⟨hp, hlook⟩ := lay_place hu hy
  obtain ⟨h1, h2, -, h4⟩ := hy
  have hzl := lay_len h1
  have e1 : (y.place.M.lookup l[k].Arg).getD 0 = (((labAt y.z l[k].Arg).getD 0 : Nat) : Int) := by rw [hlook]; cases labAt y.z l[k].Arg <;> rfl
  have e2 : (y.place.at_)[k + 1]? = some (lenZ (y.z.take (k + 1)) : Int) := by unfold Lay.place; exact atL_get _ (by omega)
  have hal : y.place.at_.length = l.length + 1 := hp.2.1
  unfold farI farZ layH
  have hz : y.place.z = y.z := rfl
  rw [hz]
  generalize y.place.M = M at *
  generalize y.place.at_ = A at *
  have hg : l[k]? = some l[k] := List.getElem?_eq_getElem hk
  refine ACalls.runX [4] [5301, 5302, 5303, 5304] Tryz.func85 rfl (by simp [Tryz.f85]) ?_; simp [-cB, Tryz.f85]
  have hlab : (labAt y.z l[k].Arg).getD 0 ≤ 4 * l.length := by
    cases h : labAt y.z l[k].Arg with
    | none => simp
    | some j =>
      have h5 := labAt_le y.z _ _ h
      have := lenZ_le y.z (small3 h4)
      simp only [Option.getD_some]; omega
  have htl : lenZ (y.z.take (k + 1)) ≤ 4 * l.length := by
    have := lenZ_le (y.z.take (k + 1)) (fun p hp => small3 h4 p (List.mem_of_mem_take hp))
    rw [List.length_take] at this; omega
  have e3 : inR .i64 ((k : Int) + 1) := by rw [inR_i64]; omega
  have e4 : inR .i64 ((((labAt y.z l[k].Arg).getD 0 : Nat) : Int) - (lenZ (y.z.take (k + 1)) : Int)) := by rw [inR_i64]; omega
  have e5 : k + 1 < l.length + 1 := by omega
  have e6 : ∀ h : k + 1 < A.length, A[k + 1]'h = (lenZ (y.z.take (k + 1)) : Int) := fun h => by rw [List.getElem?_eq_getElem h] at e2; exact Option.some.inj e2
  refine AWP.regionD [] Tryz.mixed (by kernel_rfl) (by rfl) ?_
  simp [-cB, hk, hg, e1, e3, e2, e4, e5, e6, hal]
  try omega
theorem asmGrow_ok (wb : Nat) (l : List GIns) (hl : l.length ≤ 1000000000) (y : Lay) (hu : (labsL l).Nodup) (hy : y.Ok l) :
    ACalls Tryz.prog 83 [.bp 5301 0] (layH wb l y) (fun r L => r = .ret (.d (.v (.bool (growT y l.length).2))) ∧ L = layH wb l (growT y l.length).1) := by
  unfold layH
  refine ACalls.runX [2] [5301, 5302, 5303, 5304] Tryz.func83 rfl (by simp [Tryz.f83]) ?_; simp [-cB, Tryz.f83]
  refine AWP.loopL [0, 3, 10, 11, 12] l (fun pre => [(3, .d (.v (.bool (growT y pre.length).2))), (12, .d (.v (.int .i64 pre.length)))]) (fun pre => [(5302, .row 3 1 (dd (encI (szL (growT y pre.length).1.z)))), (5303, .row 3 1 (dd (encI (growT y pre.length).1.at_))), (5304, .mp (lM (growT y pre.length).1.M))]) (fun _ => True) (by rfl) (by omega) (by simp [growT]) ?_ ?_
  · rintro pre x post hsp - hlt hge a4
    have hk := growT_ok hu hy pre.length
    have hg : growT y (pre.length + 1) = growY (growT y pre.length).1 (growT y pre.length).2 pre.length := rfl
    obtain ⟨yb, hyb⟩ : ∃ yb, growT y pre.length = yb := ⟨_, rfl⟩
    rw [hyb] at hg hk
    obtain ⟨y1, b⟩ := yb
    simp only at hg hk
    have hP := fun bb => asmPlace_ok bb l hl y1 hk
    have hF := fun bb => asmFar_ok bb l hl y1 hu hk pre.length hlt
    rw [hge] at hF
    have hA := asks_ok x
    obtain ⟨h1, h2, h3, h4⟩ := hk
    have hzl := lay_len h1
    have hz : y1.z[pre.length]? = some (y1.z[pre.length]'(by omega)) := List.getElem?_eq_getElem (by omega)
    have hzx : (y1.z[pre.length]'(by omega)).1 = x := by
      have : (y1.z.map Prod.fst)[pre.length]? = some x := by rw [h1, hsp]; simp
      rw [List.getElem?_map, hz] at this
      exact Option.some.inj this
    unfold growY at hg
    rw [hz] at hg
    simp only at hg
    rw [hzx] at hg
    clear hsp
    cases hj : jmp x.Op with
    | false =>
      rw [hj] at hg hA
      simp at hg
      simp [-cB, hlt, hge, hyb]
      intro bs
      refine AOps.pureC rfl (hA) rfl rfl (by simp) rfl ?_
      simp [-cB, hlt, hge, hyb, a4, hg]
    | true =>
      rw [hj] at hg hA
      simp at hg
      obtain ⟨F, hFd⟩ : ∃ F, farI y1.z pre.length x = F := ⟨_, rfl⟩
      have hq : growP y1.z pre.length = if (y1.z[pre.length]'(by omega)).2 < bytesM F then some (y1.z.set pre.length (x, bytesM F)) else none := by
        unfold growP
        rw [hz]
        simp only
        rw [hzx, hj, hFd]
        simp
      have hlp : lenP (y1.z[pre.length]'(by omega)) = 1 + (y1.z[pre.length]'(by omega)).2 := by rw [lenP_eq, hzx, hj]; simp
      have hsl : (szL y1.z).length = l.length := by simp [szL, hzl]
      have hsg : ∀ h : pre.length < (szL y1.z).length, (szL y1.z)[pre.length]'h = ((1 + (y1.z[pre.length]'(by omega)).2 : Nat) : Int) := fun h => by rw [← hlp]; simp [szL]
      have hss : szL (y1.z.set pre.length (x, bytesM F)) = (szL y1.z).set pre.length (1 + (bytesM F : Int)) := by
        unfold szL
        rw [List.map_set]
        congr 1
        rw [lenP_eq, hj]; simp
      have hN := need_ok F
      have hb2 := bytesM_two F
      rw [hFd] at hF
      rw [hq] at hg
      unfold layH at hP hF
      have hpz : y1.place.z = y1.z := rfl
      rw [hpz] at hP hF
      generalize (y1.z[pre.length]'(by omega)).2 = q at *
      have hz1 : inR .i64 (1 + (bytesM F : Int)) := by rw [inR_i64]; omega
      simp [-cB, hlt, hge, hyb]
      intro bs
      refine AOps.pureC rfl (hA) rfl rfl (by simp) rfl ?_
      simp [-cB, hlt, hge, hyb]
      refine AOps.effD [5301, 5302, 5303, 5304] rfl ((hP _)) (by simp) rfl (by simp) rfl (by kernel_rfl) (by first | rfl | simp) (by simp) (by simp) (by simp) (by simp) ?_
      simp [-cB, hlt, hge, hyb]
      refine AOps.effD [5301, 5302, 5303, 5304] rfl ((hF _)) (by simp) rfl (by simp) rfl (by kernel_rfl) (by first | rfl | simp) (by simp) (by simp) (by simp) (by simp) ?_
      simp [-cB, hlt, hge, hyb]
      refine AOps.pureC rfl (hN) rfl rfl (by simp) rfl ?_
      by_cases h3 : q < bytesM F
      · have h4 : (1 + (q : Int)) < 1 + (bytesM F : Int) := by omega
        rw [if_pos h3] at hg
        simp [-cB, hlt, hge, hyb, hsl, hsg, hz1, h4, a4, hg, hss, hpz]
      · have h4 : ¬ (1 + (q : Int)) < 1 + (bytesM F : Int) := by omega
        rw [if_neg h3] at hg
        simp [-cB, hlt, hge, hyb, hsl, hsg, hz1, h4, a4, hg, hss, hpz]
  · intro _
    simp [-cB]
end Go.Ab

namespace Go
section
variable {P : Program} {b : Frame} {a : Act} {k : List Item} {cs : List Frame} {w : World} {F : Fence} {n : Nat} {Q : Exit → Act → World → Prop}
theorem stepR_scope {c : Code} : step P (lone (b.atR a (.code (.scope c) :: k)) cs w) = .next (lone (b.atR a (.code c :: .inScope c :: k)) cs w) :=
  step_lone_go (by simp [stepG, stepG.exec, Frame.atR])
theorem stepR_inScope {c : Code} : step P (lone (b.atR a (.inScope c :: k)) cs w) = .next (lone (b.atR a k) cs w) :=
  step_lone_go (by simp [stepG, stepG.exec, Frame.atR])
def Exit.back (l : Nat) (J : Act → World → Prop) (Q : Exit → Act → World → Prop) : Exit → Act → World → Prop
  | .goto l', a, w => l' = l ∧ J a w
  | e, a, w => Q e a w
theorem wpIn_scope_back {c rest : Code} (l : Nat) (J : Nat → Act → World → Prop) (hf : findLabel c l = some rest)
    (first : c.wpIn F n P (Exit.back l (fun a w => ∃ j, J j a w) Q) a w)
    (pass : ∀ j a w, J j a w → rest.wpIn F n P (Exit.back l (fun a' w' => ∃ i, i < j ∧ J i a' w') Q) a w) : (Code.scope c).wpIn F n P Q a w := by
  intro b k cs hro hb hr
  have hg : gotoIn l (.inScope c :: k) = some (.code rest :: .inScope c :: k) := by simp [gotoIn, hf]
  have h0 : (lone (b.atR a (.code (.scope c) :: k)) cs w).fenced P F := fenced_calm hb hr rfl
  have hx : ∀ id, exitTo id (.inScope c :: k) = exitTo id k := fun id => by simp [exitTo]
  have key : ∀ j a w, J j a w → ∃ e a' w', Q e a' w' ∧ ArrivesIn (Machine.fenced P F) P (lone (b.atR a (.code rest :: .inScope c :: k)) cs w) b k cs e a' w' := by
    intro j
    induction j using Nat.strongRecOn with
    | _ j ih =>
      intro a w hJ
      obtain ⟨e, a₁, w₁, hq, harr⟩ := pass j a w hJ b (.inScope c :: k) cs hro hb hr
      cases e with
      | normal => exact ⟨.normal, a₁, w₁, hq, StepsIn.trans harr (.one (fenced_calm hb hr rfl) stepR_inScope)⟩
      | exit id => exact ⟨.exit id, a₁, w₁, hq, fun k' hk => harr.1 k' (by rw [hx]; exact hk), fun hr' hk => harr.2 hr' (by rw [hx]; exact hk)⟩
      | goto l' =>
        obtain ⟨rfl, i, hlt, hJ'⟩ := hq
        obtain ⟨e₂, a₂, w₂, hq₂, harr₂⟩ := ih i hlt a₁ w₁ hJ'
        exact ⟨e₂, a₂, w₂, hq₂, .of_steps (harr.1 _ hg) harr₂⟩
      | ret => exact ⟨_, a₁, w₁, hq, harr⟩
      | panic ch => exact ⟨_, a₁, w₁, hq, harr⟩
      | outgrown => exact ⟨_, a₁, w₁, hq, harr⟩
  obtain ⟨e, a₁, w₁, hq, harr⟩ := first b (.inScope c :: k) cs hro hb hr
  cases e with
  | normal => exact ⟨.normal, a₁, w₁, hq, .head h0 stepR_scope (StepsIn.trans harr (.one (fenced_calm hb hr rfl) stepR_inScope))⟩
  | exit id => exact ⟨.exit id, a₁, w₁, hq, fun k' hk => .head h0 stepR_scope (harr.1 k' (by rw [hx]; exact hk)),
      fun hr' hk => let ⟨k₁, h1, h2⟩ := harr.2 hr' (by rw [hx]; exact hk); ⟨k₁, h1, .head h0 stepR_scope h2⟩⟩
  | goto l' =>
    obtain ⟨rfl, j, hJ'⟩ := hq
    obtain ⟨e₂, a₂, w₂, hq₂, harr₂⟩ := key j a₁ w₁ hJ'
    exact ⟨e₂, a₂, w₂, hq₂, .of_steps (.head h0 stepR_scope (harr.1 _ hg)) harr₂⟩
  | ret => exact ⟨_, a₁, w₁, hq, .of_steps (.one h0 stepR_scope) harr⟩
  | panic ch => exact ⟨_, a₁, w₁, hq, .of_steps (.one h0 stepR_scope) harr⟩
  | outgrown => exact ⟨_, a₁, w₁, hq, .of_steps (.one h0 stepR_scope) harr⟩
end
end Go
namespace Go.Ab
section
variable {P : Program} {n : Nat} {s : St} {Q : AX → St → Prop}
def AX.back (l : Nat) (J : St → Prop) (Q : AX → St → Prop) : AX → St → Prop
  | .goto l', s => l' = l ∧ J s
  | x, s => Q x s
theorem AWP.scope {c rest : Code} (l : Nat) (J : Nat → St → Prop) (hf : findLabel c l = some rest) (hrf : hasRF rest = true → hasRF c = true)
    (first : AWP P n c s (AX.back l (fun s' => ∃ j, J j s') Q))
    (pass : ∀ j s', J j s' → AWP P n rest s' (AX.back l (fun s'' => ∃ i, i < j ∧ J i s'') Q)) : AWP P n (.scope c) s Q := fun fo m a w hr g => by
  let K (j : Nat) (a1 : Act) (w1 : World) : Prop := ∃ ms m1 s1, Marks fo.nm w w1 ms ∧ J j s1 ∧ G (fo.mark ms) n m1 s1 a1 w1 ∧ Step w (own m) w1 (own m1)
  have conv : ∀ (T : St → Prop) (T' : Act → World → Prop), (∀ ms m1 s1 a1 w1, Marks fo.nm w w1 ms → T s1 → G (fo.mark ms) n m1 s1 a1 w1 → Step w (own m) w1 (own m1) → T' a1 w1) →
      ∀ e a2 w2, Post fo n m w (AX.back l T Q) e a2 w2 → Exit.back l T' (Post fo n m w Q) e a2 w2 := by
    rintro T T' hT e a2 w2 ⟨ms2, m2, x2, s2, hm2, hq, g2, hx, hs2⟩
    cases e with
    | normal => cases x2 <;> simp only [Exits] at hx; exact ⟨ms2, m2, _, s2, hm2, hq, g2, trivial, hs2⟩
    | exit i => cases x2 <;> simp only [Exits] at hx; exact ⟨ms2, m2, _, s2, hm2, hq, g2, hx, hs2⟩
    | goto i =>
      cases x2 <;> simp only [Exits] at hx
      subst hx
      exact ⟨hq.1, hT ms2 m2 s2 a2 w2 hm2 hq.2 g2 hs2⟩
    | ret => cases x2 <;> simp only [Exits] at hx; exact ⟨ms2, m2, _, s2, hm2, hq, g2, trivial, hs2⟩
    | panic ch => cases x2 <;> simp only [Exits] at hx; exact ⟨ms2, m2, _, s2, hm2, hq, g2, hx, hs2⟩
    | outgrown => cases x2 <;> simp only [Exits] at hx
  refine wpIn_scope_back l K hf ?_ ?_
  · exact Code.wpIn_mono (conv _ _ (fun ms m1 s1 a1 w1 hm ⟨j, hj⟩ g1 hs => ⟨j, ms, m1, s1, hm, hj, g1, hs⟩)) (first fo m a w hr g)
  · rintro j a1 w1 ⟨ms, m1, s1, hm, hj, g1, hs1⟩
    refine Code.wpIn_mono (fun e a2 w2 hp => ?_) (pass j s1 hj (fo.mark ms) m1 a1 w1 (fun e => hr (hrf e)) g1)
    exact conv _ _ (fun ms2 m2 s2 a2 w2 hm2 ⟨i, hi, hji⟩ g2 hs2 => ⟨i, hi, ms2, m2, s2, hm2, hji, g2, hs2⟩) e a2 w2 (Post.marked hm g1 hs1 hp)
variable {l : Nat} {J : St → Prop}
@[simp] theorem back_n : AX.back l J Q .normal s = Q .normal s := rfl
@[simp] theorem back_e {i : Nat} : AX.back l J Q (.exit i) s = Q (.exit i) s := rfl
@[simp] theorem back_r : AX.back l J Q .ret s = Q .ret s := rfl
@[simp] theorem back_p {v : V} : AX.back l J Q (.pan v) s = Q (.pan v) s := rfl
@[simp] theorem back_g {i : Nat} : AX.back l J Q (.goto i) s = (i = l ∧ J s) := rfl
theorem back_mono {J' : St → Prop} (h : ∀ s, J s → J' s) (x : AX) (s : St) (hx : AX.back l J Q x s) : AX.back l J' Q x s := by
  cases x <;> first | exact hx | exact ⟨hx.1, h s hx.2⟩
theorem AWP.scopeR {c y : Code} (l : Nat) (J : Nat → St → Prop) (hf : findLabel c l = some (.seq .skip y)) (hrf : hasRF y = true → hasRF c = true)
    (pass : ∀ j s', J j s' → codeK P n y s' (kontK P n (AX.back l (fun s'' => ∃ i, i < j ∧ J i s'') Q) []))
    (first : (∀ j s', J j s' → AWP P n y s' (AX.back l (fun s' => ∃ j, J j s') Q)) → AWP P n c s (AX.back l (fun s' => ∃ j, J j s') Q)) : AWP P n (.scope c) s Q :=
  AWP.scope l J hf (fun h => hrf (by simpa [hasRF] using h)) (first fun j s' h => AWP.mono (codeK_sound _ _ _ (pass j s' h)) (back_mono fun s'' ⟨i, _, hi⟩ => ⟨i, hi⟩))
    (fun j s' h => AWP.seq (AWP.skip (codeK_sound _ _ _ (pass j s' h))))
theorem codeK_gotoW {i : Nat} {s' : St} (hw : Wk n s s') (h : Q (.goto i) s') : codeK P n (.goto i) s Q := by
  show AWP P n (.goto i) s Q
  exact AWP.weaken hw (AWP.goto h)
end
end Go.Ab

namespace Go.Ab
open Go.Proofs
set_option maxHeartbeats 4000000
set_option maxRecDepth 20000
@[simp] theorem opnR_mp (bs : Nat → Nat) (h : Nat) (es : List ME) : opnR bs h (.mp es) = .mp es := rfl
def szP (n : Nat) (pre : List GIns) : List Int := szL (zipZ pre) ++ List.replicate (n - pre.length) 0
theorem szP_len {n : Nat} {pre : List GIns} (h : pre.length ≤ n) : (szP n pre).length = n := by simp [szP, szL, zipZ]; omega
theorem szP_set {n : Nat} {pre : List GIns} (h : pre.length < n) (x : GIns) (v : Int) (hv : v = (lenP (x, 0) : Int)) : (szP n pre).set pre.length v = szP n (pre ++ [x]) := by
  unfold szP
  have hl : (szL (zipZ pre)).length = pre.length := by simp [szL, zipZ]
  have e : n - pre.length = (n - (pre ++ [x]).length) + 1 := by simp; omega
  rw [List.set_append_right _ _ (by omega), hl, Nat.sub_self, e, List.replicate_succ, List.set_cons_zero]
  simp [szL, zipZ, hv]
theorem szP_set2 {n : Nat} {pre : List GIns} (v w : Int) : ((szP n pre).set pre.length v).set pre.length w = (szP n pre).set pre.length w := by simp
theorem codeZ_snoc (w : Zl) (p : GIns × Nat) : ∀ (a : Zl) (k : Nat), codeZ w k (a ++ [p]) = codeZ w k a ++ codeP w (k + lenZ a) p
  | [], k => by simp [codeZ, lenZ]
  | q :: a, k => by rw [List.cons_append, codeZ, codeZ_snoc w p a, codeZ, lenZ_cons, List.append_assoc, Nat.add_assoc]
theorem asmAsm_ok (l : List GIns) (hl : l.length ≤ 1000000000) : Pure Tryz.prog 39 [.d (.sl (l.map GIns.enc))] (.tup [.d (.sl (encY (asmM l).1)), .d (.v (.int .i64 (asmM l).2))]) := by
  rw [← asmP_eq]
  have hW := wrong_ok l hl
  refine Pure.runA Tryz.func39 rfl (by simp [Tryz.f39]) ?_
  simp only [Tryz.f39]
  refine AWP.seqK ?_
  simp [-cB]
  by_cases hw : wrongM l = 0
  · have hu := wrongM_nodup hw
    have hwb : (wrongM l != 0) = false := by simpa using hw
    have hz0 : (zipZ l).length = l.length := by simp [zipZ]
    obtain ⟨zF, hzF⟩ := sizesP_ok (3 * l.length + 1) (zipZ l) (by intro p hp; obtain ⟨i, _, rfl⟩ := List.mem_map.1 hp; simp) (by rw [hz0]; omega)
    have hasm : asmP l = if 65536 < lenZ zF then ([], 3) else if outF zF 0 zF = true then ([], 3) else (codeZ zF 0 zF, 0) := by
      unfold asmP
      rw [if_neg (by simpa using hw), hzF]
    refine AWP.scopeR 0 (fun j s' => ∃ (wb : Nat) (y : Lay), s' = ⟨[(0, .d (.sl (l.map GIns.enc))), (5, .bp 5301 0)], layH wb l y⟩ ∧ y.Ok l ∧ sizesP j y.z = some zF) (by rfl) (by intro h; exact absurd h (by decide)) ?_ fun hp => ?_
    · rintro j s' ⟨wb, y, rfl, hok, hsz⟩
      cases j with
      | zero => cases hsz
      | succ j =>
        have hG := fun bb => asmGrow_ok bb l hl y hu hok
        have hok' := growT_ok hu hok l.length
        have hpass := growT_pass y l.length
        have hyl := lay_len hok.1
        rw [sizesP, hyl, ← hpass] at hsz
        generalize growT y l.length = yb at *
        obtain ⟨y', b⟩ := yb
        simp only at hsz hG hok'
        have hPl := fun bb => asmPlace_ok bb l hl y' hok'
        cases b with
        | true =>
          simp only [if_true] at hsz
          unfold layH at hG ⊢
          simp [-cB]
          refine AOps.effD [5301, 5302, 5303, 5304] rfl ((hG _)) (by simp) rfl (by simp) rfl (by kernel_rfl) (by first | rfl | simp) (by simp) (by simp) (by simp) (by simp) ?_
          simp [-cB]
          refine codeK_gotoW (Wk.pick [0, 5] [5301, 5302, 5303, 5304] (by rfl) (by decide) (by simp)) ?_
          simp [-cB]
          exact ⟨j, by omega, _, y', ⟨rfl, rfl, rfl, rfl⟩, hok', hsz⟩
        | false =>
          simp only [Bool.false_eq_true, if_false, Option.some.injEq] at hsz
          unfold layH at hG hPl ⊢
          simp [-cB]
          refine AOps.effD [5301, 5302, 5303, 5304] rfl ((hG _)) (by simp) rfl (by simp) rfl (by kernel_rfl) (by first | rfl | simp) (by simp) (by simp) (by simp) (by simp) ?_
          simp [-cB]
          refine AOps.effD [5301, 5302, 5303, 5304] rfl ((hPl _)) (by simp) rfl (by simp) rfl (by kernel_rfl) (by first | rfl | simp) (by simp) (by simp) (by simp) (by simp) ?_
          have hF := fun bb k hk => asmFar_ok bb l hl y' hu hok' k hk
          obtain ⟨h1, h2, h3, h4⟩ := hok'
          have hzl := lay_len h1
          have hat : (y'.place.at_)[l.length]? = some (lenZ zF : Int) := by
            unfold Lay.place
            rw [atL_get _ (by omega), List.take_of_length_le (by omega), hsz]
          have hal : (y'.place.at_).length = l.length + 1 := by
            unfold Lay.place
            rw [atL_len, hzl]
          have hpz : y'.place.z = y'.z := rfl
          unfold layH at hF
          rw [hpz] at hF
          rw [hpz]
          rw [hsz] at h1 h4 hzl hF ⊢
          generalize y'.place.at_ = A at *
          generalize y'.place.M = M at *
          have hlt0 : l.length < l.length + 1 := by omega
          have hg0 : ∀ h : l.length < A.length, A[l.length]'h = (lenZ zF : Int) := fun h => by rw [List.getElem?_eq_getElem h] at hat; exact Option.some.inj hat
          by_cases hL : 65536 < lenZ zF
          · have hLi : (65536 : Int) < lenZ zF := by omega
            rw [if_pos hL] at hasm
            simp [-cB, hal, hat, hlt0, hg0, hLi, hasm]
            rfl
          · have hLi : ¬ (65536 : Int) < lenZ zF := by omega
            rw [if_neg hL] at hasm
            simp [-cB, hal, hat, hlt0, hg0, hLi]
            clear hPl hG hpass hat hg0
            refine AWP.weaken (Wk.own' (t := 8) (h := 5305) (k := 1) (ty := 5) (by rfl) (by simp [keys])) ?_
            refine AWP.loopL [5, 8, 67, 68, 69] l (fun pre => [(69, .d (.v (.int .i64 pre.length)))]) (fun pre => [(5305, .row 5 1 (dd (encY (codeZ zF 0 (zF.take pre.length)))))]) (fun pre => outF zF pre.length (zF.drop pre.length) = outF zF 0 zF) (by rfl) (by omega) (by simp [codeZ, encY]) ?_ ?_
            · rintro pre x post hsp hO hlt hge a4
              have hk : pre.length < zF.length := by omega
              have hz : zF[pre.length]? = some zF[pre.length] := List.getElem?_eq_getElem hk
              have hzx : zF[pre.length].1 = x := by
                have : (zF.map Prod.fst)[pre.length]? = some x := by rw [h1, hsp]; simp
                rw [List.getElem?_map, hz] at this
                exact Option.some.inj this
              have hF := fun bb => hF bb pre.length hlt
              rw [hge] at hF
              clear hsp
              have htk : zF.take (pre.length + 1) = zF.take pre.length ++ [zF[pre.length]] := by rw [List.take_add_one, hz]; rfl
              have hcs := codeZ_snoc zF zF[pre.length] (zF.take pre.length) 0
              rw [← htk, Nat.zero_add] at hcs
              have hls := lenZ_succ zF pre.length hk
              rw [List.drop_eq_getElem_cons hk, outF, hzx] at hO
              have hA := asks_ok x
              have hE := opEncode_ok x
              have hlp := lenP_eq zF[pre.length]
              rw [hzx] at hlp
              have hq2 := h4 _ (List.getElem_mem hk)
              have hcl : (codeZ zF 0 (zF.take pre.length)).length ≤ 65536 := by
                rw [codeZ_len zF 0 (zF.take pre.length) (fun p hp => h4 p (List.mem_of_mem_take hp))]
                have := lenZ_take_le zF pre.length zF.length (by omega)
                rw [List.take_length] at this
                omega
              unfold codeP at hcs
              rw [hzx, ← hls] at hcs
              obtain ⟨F, hFd⟩ : ∃ F, farI zF pre.length x = F := ⟨_, rfl⟩
              have hFz : farZ zF x.Arg (lenZ (zF.take (pre.length + 1))) = F := hFd
              rw [hFd] at hF hO
              rw [hFz] at hcs
              have hsl : (szL zF).length = l.length := by simp [szL, hzl]
              have hsg : ∀ h : pre.length < (szL zF).length, (szL zF)[pre.length]'h = (lenP zF[pre.length] : Int) := fun h => by simp [szL]
              have hel := encM_len x
              generalize hC : codeZ zF 0 (zF.take pre.length) = C at *
              generalize zF[pre.length].2 = q at *
              generalize lenP zF[pre.length] = lp at *
              cases hj : jmp x.Op with
              | false =>
                have hc2 : codeZ zF 0 (zF.take (pre.length + 1)) = C ++ encM x := by
                  rw [hcs]
                  by_cases h38 : x.Op = 38
                  · rw [if_pos h38]; unfold encM; rw [if_pos (by omega)]
                  · rw [if_neg h38, hj]; simp
                rw [hj] at hA hO
                simp at hO
                simp [-cB, hlt, hge, hC]
                intro bs
                refine AOps.pureC rfl (hA) rfl rfl (by simp) rfl ?_
                simp [-cB, hlt, hge]
                refine AOps.pureC rfl (hE) rfl rfl (by simp) rfl ?_
                simp [-cB, hlt, hge, a4, hc2, hO]
                exact ⟨encY_one _, by omega⟩
              | true =>
                have hjo : x.Op = 24 ∨ x.Op = 25 := by unfold jmp at hj; simpa using hj
                rw [hj] at hA hO hlp
                simp at hO hlp
                have hI := wIs_ok F
                rw [int16_eq] at hI
                have hc2 : codeZ zF 0 (zF.take (pre.length + 1)) = C ++ encK x.Op F q := by
                  rw [hcs, if_neg (by omega), hj]; simp
                simp [-cB, hlt, hge, hC]
                intro bs
                refine AOps.pureC rfl (hA) rfl rfl (by simp) rfl ?_
                simp [-cB, hlt, hge]
                refine AOps.effD [5301, 5302, 5303, 5304] rfl ((hF _)) (by simp) rfl (by simp) rfl (by kernel_rfl) (by first | rfl | simp) (by simp) (by simp) (by simp) (by simp) ?_
                simp [-cB, hlt, hge]
                refine AOps.pureC rfl (hI) rfl rfl (by simp) rfl ?_
                cases hIb : int16B F with
                | false =>
                  rw [hIb] at hO
                  simp at hO
                  rw [← hO] at hasm
                  simp at hasm
                  simp [-cB, hasm]
                  rfl
                | true =>
                  rw [hIb] at hO
                  simp at hO
                  have u2 : IntKind.u8.wrap (F.fdiv (2 ^ min 8 IntKind.i64.bits)) = F / 256 % 256 := by
                    rw [show ((2 : Int) ^ min 8 IntKind.i64.bits) = 256 by decide, Int.fdiv_eq_ediv_of_nonneg _ (by decide)]; rfl
                  have u3 : IntKind.u8.wrap F = F % 256 := rfl
                  have u1 : IntKind.u8.wrap (4 * x.Op + (lp : Int) - 1) = 4 * x.Op + q := by
                    rw [hlp, show 4 * x.Op + ((1 + q : Nat) : Int) - 1 = 4 * x.Op + q by omega]
                    exact inR_wrap ⟨by show (0 : Int) ≤ _; omega, by show _ ≤ (255 : Int); omega⟩
                  have i1 : inR .i64 (4 * x.Op) := by rw [inR_i64]; omega
                  have i2 : inR .i64 (4 * x.Op + (lp : Int)) := by rw [inR_i64]; omega
                  have i3 : inR .i64 (4 * x.Op + (lp : Int) - 1) := by rw [inR_i64]; omega
                  have i4 : inR .i64 (3 - (lp : Int)) := by rw [inR_i64]; omega
                  simp [-cB, u2, u3]
                  refine AWP.weaken (Wk.freeze 92 (ys := encY [F / 256 % 256, F % 256]) (by rfl)) ?_
                  simp [-cB]
                  refine AWP.regionM0 [some (0, 1), some (0, 0), some (0, 0), some (0, 0), some (0, 0), some (0, 0), some (0, 0), some (0, 0), some (0, 0), some (0, 0), some (0, 0), some (0, 0), some (0, 0), some (0, 0), none, none, some (0, 2), some (0, 2), some (0, 2), some (0, 2), some (0, 2), some (0, 2), some (0, 2), some (0, 2), some (0, 2), some (0, 2), none, some (3, 3)] [] Tryz.mixed (by kernel_rfl) ?_
                  have ed : List.drop (3 - lp) (List.take 2 (encY [F / 256 % 256, F % 256])) = encY (List.drop (3 - lp) [F / 256 % 256, F % 256]) := by
                    rw [List.take_of_length_le (by simp)]
                    exact List.map_drop.symm
                  simp [-cB, hsl, hsg, hlt, u1, i1, i2, i3, i4]
                  rw [ed, hc2]
                  refine ⟨by omega, ⟨⟨by omega, by omega⟩, encY_one _⟩, ⟨encY_one _, by omega⟩, a4, ?_, hO⟩
                  have h012 : q = 0 ∨ q = 1 ∨ q = 2 := by omega
                  rcases h012 with rfl | rfl | rfl <;> subst hlp <;> simp [encK, argB, dd, encY]
            · intro hO
              rw [List.drop_of_length_le (by omega)] at hO
              have hO2 : outF zF 0 zF = false := hO.symm
              rw [hO2] at hasm
              simp at hasm
              have htz : zF.take l.length = zF := List.take_of_length_le (by omega)
              simp [-cB, hasm, htz]
    · refine AWP.seqK ?_
      simp [-cB]
      refine AOps.pureC rfl (hW) rfl rfl (by simp) rfl ?_
      simp [-cB, hw, hwb]
      refine AWP.merge ⟨[(0, .d (.sl (l.map GIns.enc))), (5, .bp 28 0)], [(28, .box 0 114 [.d (.sl (l.map GIns.enc)), .rv 21, .rv 25, .rv 26]), (21, .row 3 1 (dd (encI (List.replicate l.length 0)))), (25, .row 3 1 (dd (encI (List.replicate (l.length + 1) 0)))), (26, .mp [])]⟩ ?_ ?_
      · have m1 : l.length ≤ maxLen := by unfold maxLen; omega
        have m2 : 8 * l.length ≤ 140737488355328 := by omega
        have m3 : inR .i64 ((l.length : Int) + 1) := by rw [inR_i64]; omega
        have m4 : (l.length : Int) + 1 ≤ maxLen := by unfold maxLen; omega
        have m5 : 8 * (l.length + 1) ≤ 140737488355328 := by omega
        have m6 : 0 ≤ (l.length : Int) + 1 := by omega
        refine AWP.regionE Tryz.mixed (OrdR.edge 3 7 (by decide) (OrdR.edge 3 8 (by decide) (OrdR.edge 7 8 (by decide) (OrdR.m0 [some (0, 3), some (0, 0), some (0, 0), none, some (0, 1), some (0, 1), some (0, 1), none, none, some (3, 3), none, some (4, 4)] [] (by kernel_rfl) ?_) (OrdR.perm [0, 1, 2, 3, 4, 5, 6, 8, 7, 9, 10, 11] [0, 1, 2, 3, 4, 5, 6, 8, 7, 9, 10, 11] (by kernel_rfl) (by kernel_rfl) (OrdR.m0 [some (0, 3), some (0, 0), some (0, 0), none, some (0, 2), some (0, 2), some (0, 2), none, none, some (3, 3), none, some (4, 4)] [] (by kernel_rfl) ?_))) (OrdR.perm [0, 1, 2, 4, 5, 6, 8, 3, 7, 9, 10, 11] [0, 1, 2, 7, 3, 4, 5, 8, 6, 9, 10, 11] (by kernel_rfl) (by kernel_rfl) (OrdR.m0 [some (0, 3), some (0, 1), some (0, 1), some (0, 2), some (0, 2), some (0, 2), none, none, none, some (3, 3), none, some (4, 4)] [] (by kernel_rfl) ?_))) (OrdR.edge 3 8 (by decide) (OrdR.perm [0, 1, 2, 4, 5, 6, 7, 3, 8, 9, 10, 11] [0, 1, 2, 7, 3, 4, 5, 6, 8, 9, 10, 11] (by kernel_rfl) (by kernel_rfl) (OrdR.m0 [some (0, 3), some (0, 1), some (0, 1), some (0, 0), some (0, 0), some (0, 0), none, none, none, some (3, 3), none, some (4, 4)] [] (by kernel_rfl) ?_)) (OrdR.edge 7 8 (by decide) (OrdR.perm [0, 1, 2, 4, 5, 6, 7, 8, 3, 9, 10, 11] [0, 1, 2, 8, 3, 4, 5, 6, 7, 9, 10, 11] (by kernel_rfl) (by kernel_rfl) (OrdR.m0 [some (0, 3), some (0, 2), some (0, 2), some (0, 0), some (0, 0), some (0, 0), none, none, none, some (3, 3), none, some (4, 4)] [] (by kernel_rfl) ?_)) (OrdR.perm [0, 1, 2, 4, 5, 6, 8, 7, 3, 9, 10, 11] [0, 1, 2, 8, 3, 4, 5, 7, 6, 9, 10, 11] (by kernel_rfl) (by kernel_rfl) (OrdR.m0 [some (0, 3), some (0, 2), some (0, 2), some (0, 1), some (0, 1), some (0, 1), none, none, none, some (3, 3), none, some (4, 4)] [] (by kernel_rfl) ?_)))))
        all_goals
          simp [-cB, m1, m2, m3, m4, m5, m6]
          intro bs1
          refine (Wk.rlx [28]).trans ?_
          refine Wk.pick [0, 5] [28, 21, 25, 26] (by rfl) (by decide) ?_
          simp [St.pick, St.rlx, St.on, V.on, V.ons, Res.rlx]
      · intro bs3
        refine AWP.seqK ?_
        simp [-cB]
        refine AWP.weaken (Wk.ren 28 5301 (by simp)) ?_
        simp [-cB, V.rens, V.ren]
        refine AWP.weaken (Wk.ren 21 5302 (by simp)) ?_
        simp [-cB, V.rens, V.ren]
        refine AWP.weaken (Wk.ren 25 5303 (by simp)) ?_
        simp [-cB, V.rens, V.ren]
        refine AWP.weaken (Wk.ren 26 5304 (by simp)) ?_
        simp [-cB, V.rens, V.ren]
        have hp1 := fun wb => hp (3 * l.length + 1) _ ⟨wb, ⟨zipZ l, List.replicate (l.length + 1) 0, []⟩, rfl, ⟨by simp [zipZ, Function.comp_def], by simp, by simp, by intro p hp; obtain ⟨i, _, rfl⟩ := List.mem_map.1 hp; simp⟩, hzF⟩
        clear hp
        refine AWP.loopL [0, 5, 29, 30, 31] l (fun pre => [(31, .d (.v (.int .i64 pre.length)))]) (fun pre => [(5302, .row 3 1 (dd (encI (szP l.length pre))))]) (fun _ => True) (by rfl) (by omega) (by simp [szP, szL, zipZ]) ?_ ?_
        · rintro pre x post hsp - hlt hge a4
          clear hsp hp1 hasm hzF
          have hA := asks_ok x
          have hE := (opEncode_ok x).ok
          have hsl := szP_len (Nat.le_of_lt hlt)
          have hs1 := szP_set (n := l.length) hlt x
          have hs2 := fun v w => szP_set2 (n := l.length) (pre := pre) v w
          have hlp := lenP_eq (x, 0)
          simp only [Nat.add_zero] at hlp
          cases hj : jmp x.Op with
          | false =>
            rw [hj] at hA hlp
            have hs3 := hs1 ((encM x).length : Int) (by rw [hlp]; rfl)
            simp [-cB, hlt, hge]
            intro bs4
            refine AWP.regionM0 [some (0, 0), some (0, 0), some (0, 0), some (0, 0), some (0, 0), some (0, 0), some (0, 0), some (0, 0), some (0, 0), none] [.d (.sl (encY (encM x)))] Tryz.mixed (by kernel_rfl) ?_
            simp [-cB, hlt, hge, hE, hsl, hs3]
            refine AOps.pureC rfl (hA) rfl rfl (by simp) rfl ?_
            simp [-cB, hlt, hge, a4, hs3]
          | true =>
            rw [hj] at hA hlp
            have hs3 := hs1 1 (by rw [hlp]; rfl)
            simp [-cB, hlt, hge]
            intro bs4
            refine AWP.regionM0 [some (0, 0), some (0, 0), some (0, 0), some (0, 0), some (0, 0), some (0, 0), some (0, 0), some (0, 0), some (0, 0), none] [.d (.sl (encY (encM x)))] Tryz.mixed (by kernel_rfl) ?_
            simp [-cB, hlt, hge, hE, hsl, hs3]
            refine AOps.pureC rfl (hA) rfl rfl (by simp) rfl ?_
            simp [-cB, hlt, hge, a4, hsl, hs2, hs3]
        · intro _
          have hsz : szP l.length l = szL (zipZ l) := by simp [szP]
          simp [-cB]
          refine AWP.seq (AWP.label ?_)
          refine AWP.weaken (Wk.pick [0, 5] [5301, 5302, 5303, 5304] (by rfl) (by decide) (by simp)) ?_
          rw [hsz]
          exact hp1 _
  · refine AWP.scopeR 0 (fun _ _ => False) (by rfl) (by intro h; exact absurd h (by decide)) (fun _ _ h => h.elim) fun _ => ?_
    refine AWP.seqK ?_
    simp [-cB]
    refine AOps.pureC rfl (hW) rfl rfl (by simp) rfl ?_
    have hP : asmP l = ([], wrongM l) := by unfold asmP; rw [if_pos hw]
    have hwb : (wrongM l != 0) = true := by simpa using hw
    simp [-cB, hw, hwb, hP]
    rfl
end Go.Ab
