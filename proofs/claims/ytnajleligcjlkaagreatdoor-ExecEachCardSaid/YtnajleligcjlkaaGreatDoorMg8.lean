/-
  The texts Xea2 Xnew Dn Xawk, one behind the other.
-/
import Derived.Test.YtnajleligcjlkaaGreatDoorMg7
set_option linter.unusedSimpArgs false
set_option linter.unusedVariables false
namespace Go.Ab
open Go.Proofs
def V.n1 : V → V
  | .d y => .d y.nn
  | v => v
def V.n2 : V → V
  | .d y => .d y.nn
  | .agg cs => .agg (cs.map V.n1)
  | v => v
theorem RelV.n1 {w : World} {O : Nat → Prop} {m : Nat → Option Value} {x : Value} {y : V} (h : RelV w O m x y) : RelV w O m x y.n1 := by
  unfold V.n1
  split
  · exact .d _ _ h.d_inv.nn
  · exact h
theorem RelV.n2 {w : World} {O : Nat → Prop} {m : Nat → Option Value} {x : Value} {y : V} (h : RelV w O m x y) : RelV w O m x y.n2 := by
  unfold V.n2
  split
  · exact .d _ _ h.d_inv.nn
  · cases h with
    | agg vs cs hs h1 h =>
      refine .agg vs _ (by simpa using hs) h1 ?_
      intro j x y hx hy
      rw [List.getElem?_map] at hy
      obtain ⟨z, hz, rfl⟩ := Option.map_eq_some_iff.1 hy
      exact (h j x z hx hz).n1
  · exact h
def Res.n1 : Res → Res
  | .box b t cs => .box b t (cs.map V.n1)
  | r => r
def St.nn (s : St) : St := ⟨s.fr.map fun p => (p.1, p.2.n2), s.L.map fun p => (p.1, p.2.n1)⟩
theorem Wk.nn {n : Nat} {s s' : St} (h : s.nn = s') : Wk n s s' := by
  subst h
  intro fo m a w g
  have hi := g.inv
  have hk : keys (St.nn s).L = keys s.L := by simp [keys, St.nn, Function.comp_def]
  refine ⟨m, ⟨g.size, ?_, ⟨by rw [hk]; exact hi.nodup, fun h x hx => by rw [hk]; exact hi.dom h x hx, hi.apart, hi.others, hi.folt, ?_, hi.glob⟩, g.defers⟩, Step.refl w _⟩
  · intro t x hx
    obtain ⟨p, hp, he⟩ := List.mem_map.1 hx
    simp only [Prod.mk.injEq] at he
    obtain ⟨rfl, rfl⟩ := he
    obtain ⟨h1, h2⟩ := g.fr p.1 p.2 hp
    exact ⟨h1, h2.n2⟩
  · intro h r hr
    obtain ⟨p, hp, he⟩ := List.mem_map.1 hr
    simp only [Prod.mk.injEq] at he
    obtain ⟨rfl, rfl⟩ := he
    obtain ⟨x, hx, hh⟩ := hi.holds p.1 p.2 hp
    refine ⟨x, hx, ?_⟩
    generalize p.2 = q at hh
    cases q with
    | row ty k xs => exact hh
    | env A => exact hh
    | mp es => exact hh
    | box b ty cs =>
      obtain ⟨bb, h0, cur, e, hb, hs, h1, h2⟩ := hh
      refine ⟨bb, h0, cur, e, hb, by simpa using hs, ?_, ?_⟩
      · exact h1
      · intro j v z hv hz
        rw [List.getElem?_map] at hz
        obtain ⟨y, hy, rfl⟩ := Option.map_eq_some_iff.1 hz
        exact (h2 j v y hv hy).n1
theorem ACalls.nn {P : Program} {f : FuncId} {args args' : List V} {L : Heap} {R : AE → Heap → Prop} (h : ACalls P f args' L R) (ha : args.map V.n2 = args') : ACalls P f args L R := by
  intro fo m w xs hi hx
  refine h fo m w xs hi ⟨by rw [hx.1, ← ha, List.length_map], ?_⟩
  intro j x y h1 h2
  rw [← ha, List.getElem?_map] at h2
  obtain ⟨z, hz, rfl⟩ := Option.map_eq_some_iff.1 h2
  exact (hx.2 j x z h1 hz).n2
theorem Pure.nn {P : Program} {f : FuncId} {args args' : List V} {x : V} (h : Pure P f args' x) (ha : args.map V.n2 = args') (ho : V.ons [] args = true) : Pure P f args x :=
  ⟨h.en, ho, h.rn, h.calls.nn ha⟩
def nilE (x : GThing) : List D := x.enc.take 8 ++ [.v (.slice none 0 0)]
def rowE (l : List GThing) (k : Nat) : List (List D) := (l.take k).map nilE ++ (l.drop k).map GThing.enc
@[simp] theorem rowE_0 (l : List GThing) : rowE l 0 = l.map GThing.enc := by simp [rowE]
@[simp] theorem rowE_len (l : List GThing) (k : Nat) : (rowE l k).length = l.length := by simp [rowE]; omega
theorem rowE_full (l : List GThing) : rowE l l.length = l.map nilE := by simp [rowE]
theorem rowE_get {l : List GThing} {k : Nat} {y : GThing} (h : l[k]? = some y) : (dd (rowE l k))[k]? = some (y.enc.map V.d) := by
  have hk := (List.getElem?_eq_some_iff.1 h).1
  simp only [dd, rowE, List.getElem?_map]
  rw [List.getElem?_append_right (by simp; omega)]
  simp only [List.length_map, List.length_take, List.getElem?_map, List.getElem?_drop]
  rw [show k + (k - min k l.length) = k by omega, h]
  rfl
theorem rowE_set {l : List GThing} {k : Nat} {y : GThing} (h : l[k]? = some y) : (dd (rowE l k)).set k (List.take 8 (y.enc.map V.d) ++ [V.d (.v (.slice none 0 0))]) = dd (rowE l (k + 1)) := by
  obtain ⟨hk, rfl⟩ := List.getElem?_eq_some_iff.1 h
  have e : List.drop k l = l[k] :: l.drop (k + 1) := List.drop_eq_getElem_cons hk
  have e2 : List.take (k + 1) l = l.take k ++ [l[k]] := by rw [List.take_add_one, List.getElem?_eq_getElem hk]; rfl
  simp only [dd, rowE, e, e2, List.map_append, List.map_cons, List.map_nil, List.append_assoc, List.cons_append, List.nil_append]
  rw [List.set_append_right _ _ (by simp; omega)]
  simp only [List.length_map, List.length_take]
  rw [show k - min k l.length = 0 by omega, List.set_cons_zero]
  rfl
def tbE (t : GTables) (r : V) : List V := (t.enc.map V.d).take 8 ++ r :: (t.enc.map V.d).drop 9
@[simp] theorem tbE_len (t : GTables) (r : V) : (tbE t r).length = 15 := rfl
@[simp] theorem tbE_8 (t : GTables) (r : V) : (tbE t r)[8]? = some r := rfl
@[simp] theorem tbE_g8 (t : GTables) (r : V) (h : 8 < (tbE t r).length) : (tbE t r)[8] = r := rfl
@[simp] theorem tbE_on (ks : List Nat) (t : GTables) (r : V) : V.ons ks (tbE t r) = V.on ks r := by
  simp [tbE, GTables.enc, V.ons, V.on]
theorem saidE_size (T : ByteArray) : ∀ (l : List Int) (s : ByteArray), (saidE T l s).size ≤ s.size + l.length * (2 + T.size)
  | [], s => by simp [saidE]
  | y :: l, s => by
    have h := saidE_size T l (s ++ (smallT y ++ T))
    have h2 := smallT_size y
    rw [ba_size, ba_size] at h
    have e : saidE T (y :: l) s = saidE T l (s ++ (smallT y ++ T)) := rfl
    rw [e, List.length_cons, Nat.add_mul, Nat.one_mul]
    omega
theorem saidE_snoc (T : ByteArray) (l : List Int) (y : Int) (s : ByteArray) : saidE T (l ++ [y]) s = saidE T l s ++ (smallT y ++ T) := by simp [saidE]
theorem fits_text {t : GTables} (h : fitsB t = true) : ∃ T, t.Texts[0]? = some T ∧ T.size ≤ 1024 := by
  unfold fitsB headB at h
  simp only [Bool.and_eq_true, decide_eq_true_eq] at h
  have h1 := h.1.1.1.1.1.1.1.1.1.2
  have h2 := allB_iff.1 h.1.1.1.2
  unfold textB fromB at h1
  simp only [Bool.false_and, Bool.or_false, Bool.and_eq_true, decide_eq_true_eq] at h1
  have hl : 0 < t.Texts.length := by omega
  refine ⟨t.Texts[0], List.getElem?_eq_getElem hl, ?_⟩
  have h3 := h2 _ (List.getElem_mem hl)
  unfold isTextB at h3
  simp only [Bool.and_eq_true, decide_eq_true_eq] at h3
  exact h3.2
theorem seed_bd {w : GWorld} (hw : w.wf) : 0 ≤ w.Seed ∧ w.Seed < 18446744073709551616 := by
  have h := hw
  unfold GWorld.wf at h
  have h8 := h.2.2.2.2.2.2.2.2.2.2.2.2.2.2.1
  simp only [inR] at h8
  have h1 : (0 : Int) ≤ w.Seed := h8.1
  have h2 : w.Seed ≤ 18446744073709551615 := h8.2
  omega
theorem eachW_wf {w : GWorld} (hw : w.wf) : (eachW w).wf := by
  have h := hw
  unfold GWorld.wf at h ⊢
  obtain ⟨b1, b2, b3, b4, b5, b6, b7, b8, b9, b10, b11, b12, _, _, b15⟩ := h
  exact ⟨b1, b2, b3, b4, b5, b6, b7, b8, b9, b10, b11, b12, by simp [eachW], by simp [eachW], b15⟩
set_option maxHeartbeats 4000000 in
set_option maxRecDepth 20000 in
theorem ExecEach_ok (t : GTables) (w : GWorld) (x : Int) (ht : t.wf) (hw : w.wf) (awk : Pure Tryz.prog 10 [] (.d (.v (.bool true)))) :
    Pure Tryz.prog 3 [.agg (t.enc.map .d), .agg (w.enc.map .d), .d (.v (.int .i64 x))] (.d (.v (.bool true))) := by
  have hF := refFits_ok t ht
  by_cases hg : t.Things.length ≤ 60 ∧ t.Texts.length ≤ 100 ∧ fitsB t = true ∧ rightB t w = true ∧ 0 ≤ x ∧ x ≤ 100
  · obtain ⟨g1, g2, g3, g4, g5, g6⟩ := hg
    have hR := refRight_ok t ht w hw (fits_dims g3).2.1 (fits_dims g3).1.2
    have hk := OkW.of g3 g4
    rw [g3] at hF
    rw [g4] at hR
    have i1 : ¬ (60 : Int) < t.Things.length := by omega
    have i2 : ¬ (100 : Int) < t.Texts.length := by omega
    have i3 : ¬ x < 0 := by omega
    have i4 : ¬ 100 < x := by omega
    refine Pure.run Tryz.func3 rfl (by simp [Tryz.f3]) ?_; simp [-cB, Tryz.f3]
    repeat' (first
      | (with_reducible refine And.intro ?_ ?_)
      | (refine condC_split (fun h => ?_) (fun h => ?_) <;> (try simp at h) <;> (try simp [-cB, *]))
      | (refine AOps.pureC rfl (hF) rfl rfl (by simp) rfl ?_ <;> (try simp [-cB, *]))
      | (refine AOps.pureC rfl (hR) rfl rfl (by simp) rfl ?_ <;> (try simp [-cB, *]))
      | (refine AOps.pureC rfl (awk) rfl rfl (by simp) rfl ?_ <;> (try simp [-cB, *]))
      | (refine AOps.lendC rfl (hF) rfl (by simp) rfl rfl (by simp) rfl ?_ <;> (try simp [-cB, *]))
      | (refine AOps.lendC rfl (hR) rfl (by simp) rfl rfl (by simp) rfl ?_ <;> (try simp [-cB, *]))
      | (refine AOps.lendC rfl (awk) rfl (by simp) rfl rfl (by simp) rfl ?_ <;> (try simp [-cB, *]))
      | (refine AOps.pureG rfl (fun h => hF) rfl (by first | rfl | (simp; rfl)) (by simp) (by simp) rfl ?_ <;> (try simp [-cB, *]))
      | (refine AOps.pureG rfl (fun h => hR) rfl (by first | rfl | (simp; rfl)) (by simp) (by simp) rfl ?_ <;> (try simp [-cB, *]))
      | (refine AOps.pureG rfl (fun h => awk) rfl (by first | rfl | (simp; rfl)) (by simp) (by simp) rfl ?_ <;> (try simp [-cB, *]))
      | (with_reducible intro _))
    · omega
    rename_i bs
    refine AWP.weaken (s' := ⟨[(52, .d (.v (.int .i64 0))), (51, .d (.v (.int .i64 t.Things.length))), (3, .bp 3 0), (4, .bp 4 0), (2, .d (.v (.int .i64 x)))], [(47, .row 37 9 (dd (t.Things.map GThing.enc))), (4, .box (bs 1 + 1) 31 (w.enc.map .d)), (3, .box (bs 0 + 1) 28 (tbE t (.rv 47)))]⟩) (Wk.pick [52, 51, 3, 4, 2] [47, 4, 3] (by rfl) (by decide) (by simp [St.pick, St.on, V.on, ons_app, ← List.map_take, ← List.map_drop])) ?_
    refine AWP.loopL [2, 3, 4, 51, 52] t.Things (fun pre => [(52, .d (.v (.int .i64 pre.length)))]) (fun pre => [(47, .row 37 9 (dd (rowE t.Things pre.length)))]) (fun _ => True) (by rfl) (by omega) (by simp) ?_ ?_
    · rintro pre y post hsp hH hlt hge a4
      have hy : t.Things[pre.length]? = some y := by rw [hsp]; simp
      have d1 := rowE_get hy
      have d2 := rowE_set hy
      have d0 : ∀ h, (rowE t.Things pre.length)[pre.length]'h = y.enc := by
        intro h
        have := rowE_get hy
        rw [List.getElem?_eq_getElem (by simpa [dd] using h)] at this
        simp only [dd, List.getElem_map, Option.some.injEq] at this
        exact (List.map_inj_right (fun a b h => by cases h; rfl)).1 this
      have d3 : List.drop 9 (List.map V.d y.enc) = [] := rfl
      clear hsp
      simp [d0, d1, d2, d3, *]
    · intro _
      simp [-cB, rowE_full, tbE, GTables.enc, GWorld.enc]
      intro bs1 bs2
      refine AOps.weaken (Wk.pick [83, 84, 85, 3, 4, 2] [82, 81, 77, 75, 71, 66, 64, 47, 4, 3] (by rfl) (by decide) (by simp [St.pick, St.on, V.on, V.ons])) ?_
      refine AOps.weaken (Wk.freezeN 47 (ys := t.Things.map nilE) rfl) ?_
      refine AOps.weaken (Wk.freezeN 64 (ys := [[.v (.int .i64 0)]]) rfl) ?_
      refine AOps.weaken (Wk.freezeN 66 (ys := [[.v (.int .i64 2)]]) rfl) ?_
      refine AOps.weaken (Wk.freezeN 71 (ys := [[.v (.int .i64 15), .v (.int .i64 0), .v (.int .i64 0), .v (.string ⟨#[]⟩), .v (.slice none 0 0)], [.v (.int .i64 19), .v (.int .i64 0), .v (.int .i64 0), .v (.string ⟨#[]⟩), .v (.slice none 0 0)]]) rfl) ?_
      refine AOps.weaken (Wk.freezeN 75 (ys := [[.v (.int .i64 1), .v (.int .i64 0), .v (.int .i64 x), .v (.string ⟨#[]⟩), .v (.slice none 0 0)]]) rfl) ?_
      refine AOps.weaken (Wk.freezeN 77 (ys := [[.v (.int .i64 1), .v (.int .i64 0), .v (.string ⟨#[]⟩), .sl (sayE.Args.map GExpr.enc), .v (.slice none 0 0), .v (.slice none 0 0)]]) rfl) ?_
      refine AOps.weaken (Wk.freezeN 81 (ys := [[.v (.int .i64 11), .v (.int .i64 0), .v (.string ⟨#[]⟩), .sl ((eachE x).Args.map GExpr.enc), .sl ((eachE x).Body.map GStmt.enc), .v (.slice none 0 0)]]) rfl) ?_
      refine AOps.weaken (Wk.freezeN 82 (ys := [[.sl ([eachE x].map GStmt.enc)]]) rfl) ?_
      have hth : List.map (fun x => List.map D.nn x) (t.Things.map nilE) = (eachT t).Things.map GThing.enc := by
        simp only [eachT, List.map_map]
        rfl
      rw [hth]
      refine AOps.weaken (s' := ⟨[(83, .agg ((bookE t x).enc.map .d)), (84, .agg ((eachW w).enc.map .d)), (85, .agg ((⟨0, 0, 0⟩ : GEnv).enc.map .d)), (3, .bp 3 0), (4, .bp 4 0), (2, .d (.v (.int .i64 x)))], [(4, .box (bs 1 + 1) 31 ((eachW w).enc.map .d)), (3, .box (bs 0 + 1) 28 ((eachT t).enc.map .d))]⟩) (Wk.nn (by rfl)) ?_
      have hseed := seed_bd hw
      have hk := hk hseed
      obtain ⟨T, hT, hTs⟩ := fits_text g3
      obtain ⟨σ', e1, e2, e3, e4⟩ := each_run g3 g4 hseed g1 ⟨g5, g6⟩ hT hTs
      have hkl : (kidsM w.tree x).length ≤ 60 := by
        have := hk.hT
        have := chainM_len w.tree.Nxt w.tree.Par.length w.tree.Par.length (atI w.tree.Chi x)
        have e : w.tree.Par = w.Parent := rfl
        unfold kidsM
        split
        · rw [e] at this ⊢; omega
        · simp
      have hsz : ∀ l : List Int, l.length ≤ 60 → (saidE T l ⟨#[]⟩).size ≤ 100000 := by
        intro l hl
        have h1 := saidE_size T l ⟨#[]⟩
        have h2 : l.length * (2 + T.size) ≤ 60 * 1026 := Nat.mul_le_mul hl (by omega)
        have h3 : (⟨#[]⟩ : ByteArray).size = 0 := rfl
        omega
      have hRun : Pure Tryz.prog 11 [.agg ((bookE t x).enc.map .d), .agg ((eachW w).enc.map .d), .d (.v (.int .i64 0)), .d (.v (.slice none 0 0)), .agg ((⟨0, 0, 0⟩ : GEnv).enc.map .d), .d (.v (.int .i64 400))] _ :=
        (Run_ok (B := bookE t x) (W := eachW w) (r := 0) (a := []) (E := ⟨0, 0, 0⟩) (fuel := 400) (g := 80) (fits_each g3) (by simp) (by simp [bookE, eachT, getI]) (by simp) e1 (by intro n; split <;> simp) (by rw [e3]; have := hsz _ hkl; omega)).nn (by rfl) (by simp [V.ons, V.on])
      have hIs := isP_ok (eachW w) x
      rw [show (eachW w).Parent.length = w.Parent.length from rfl] at hIs
      cases hi : isT w.Parent.length x with
      | false =>
        rw [hi] at hRun hIs
        have hk0 : kidsM w.tree x = [] := by unfold kidsM; rw [if_neg (by rw [show w.tree.Par = w.Parent from rfl, hi]; decide)]
        rw [hk0] at e3
        have e3 : σ'.Out = ⟨#[]⟩ := e3
        repeat' (first
          | (with_reducible refine And.intro ?_ ?_)
          | (refine condC_split (fun h => ?_) (fun h => ?_) <;> (try simp at h) <;> (try simp [-cB, *, toldX, e3, GTold.enc]))
          | (refine AOps.pureC rfl (hRun) rfl rfl (by simp) rfl ?_ <;> (try simp [-cB, *, toldX, e3, GTold.enc]))
          | (refine AOps.pureC rfl (hIs) rfl rfl (by simp) rfl ?_ <;> (try simp [-cB, *, toldX, e3, GTold.enc]))
          | (refine AOps.pureC rfl (awk) rfl rfl (by simp) rfl ?_ <;> (try simp [-cB, *, toldX, e3, GTold.enc]))
          | (refine AOps.lendC rfl (hRun) rfl (by simp) rfl rfl (by simp) rfl ?_ <;> (try simp [-cB, *, toldX, e3, GTold.enc]))
          | (refine AOps.lendC rfl (hIs) rfl (by simp) rfl rfl (by simp) rfl ?_ <;> (try simp [-cB, *, toldX, e3, GTold.enc]))
          | (refine AOps.lendC rfl (awk) rfl (by simp) rfl rfl (by simp) rfl ?_ <;> (try simp [-cB, *, toldX, e3, GTold.enc]))
          | (refine AOps.pureG rfl (fun h => hRun) rfl (by first | rfl | (simp; rfl)) (by simp) (by simp) rfl ?_ <;> (try simp [-cB, *, toldX, e3, GTold.enc]))
          | (refine AOps.pureG rfl (fun h => hIs) rfl (by first | rfl | (simp; rfl)) (by simp) (by simp) rfl ?_ <;> (try simp [-cB, *, toldX, e3, GTold.enc]))
          | (refine AOps.pureG rfl (fun h => awk) rfl (by first | rfl | (simp; rfl)) (by simp) (by simp) rfl ?_ <;> (try simp [-cB, *, toldX, e3, GTold.enc]))
          | (with_reducible intro _))
      | true =>
        rw [hi] at hRun hIs
        have hCh : Pure Tryz.prog 13 [.agg ((eachW w).enc.map .d), .d (.v (.int .i64 x))] (.d (.sl (encI (kidsM w.tree x)))) := Children_ok (eachW w) (eachW_wf hw) hk.hC hk.hN x
        have htl : 0 < t.Texts.length := (List.getElem?_eq_some_iff.1 hT).1
        repeat' (first
          | (with_reducible refine And.intro ?_ ?_)
          | (refine condC_split (fun h => ?_) (fun h => ?_) <;> (try simp at h) <;> (try simp [-cB, *, toldX, GTold.enc]))
          | (refine AOps.pureC rfl (hRun) rfl rfl (by simp) rfl ?_ <;> (try simp [-cB, *, toldX, GTold.enc]))
          | (refine AOps.pureC rfl (hIs) rfl rfl (by simp) rfl ?_ <;> (try simp [-cB, *, toldX, GTold.enc]))
          | (refine AOps.pureC rfl (hCh) rfl rfl (by simp) rfl ?_ <;> (try simp [-cB, *, toldX, GTold.enc]))
          | (refine AOps.lendC rfl (hRun) rfl (by simp) rfl rfl (by simp) rfl ?_ <;> (try simp [-cB, *, toldX, GTold.enc]))
          | (refine AOps.lendC rfl (hIs) rfl (by simp) rfl rfl (by simp) rfl ?_ <;> (try simp [-cB, *, toldX, GTold.enc]))
          | (refine AOps.lendC rfl (hCh) rfl (by simp) rfl rfl (by simp) rfl ?_ <;> (try simp [-cB, *, toldX, GTold.enc]))
          | (refine AOps.pureG rfl (fun h => hRun) rfl (by first | rfl | (simp; rfl)) (by simp) (by simp) rfl ?_ <;> (try simp [-cB, *, toldX, GTold.enc]))
          | (refine AOps.pureG rfl (fun h => hIs) rfl (by first | rfl | (simp; rfl)) (by simp) (by simp) rfl ?_ <;> (try simp [-cB, *, toldX, GTold.enc]))
          | (refine AOps.pureG rfl (fun h => hCh) rfl (by first | rfl | (simp; rfl)) (by simp) (by simp) rfl ?_ <;> (try simp [-cB, *, toldX, GTold.enc]))
          | (with_reducible intro _))
        refine AWP.loopL [3, 10, 11, 12, 105, 106, 107] (kidsM w.tree x) (fun pre => [(107, .d (.v (.int .i64 pre.length))), (11, .d (.v (.string (saidE T pre ⟨#[]⟩))))]) (fun _ => []) (fun _ => True) (by rfl) (by omega) (by simp [saidE]) ?_ ?_
        · rintro pre y post hsp hH hlt hge a4
          have hy : y ∈ kidsM w.tree x := by rw [hsp]; simp
          have hy2 : 0 ≤ y ∧ y < 100 := by
            unfold kidsM at hy
            split at hy
            · have h3 := chainM_mem hy
              have h4 := hk.hT
              have e : w.tree.Par.length = w.Parent.length := rfl
              omega
            · simp at hy
          have hit := itoa_ok (n := y) (s := smallT y) (by rw [numT, if_pos hy2])
          have hss := saidE_snoc T pre y ⟨#[]⟩
          have hz := hsz pre (by omega)
          have hz2 := smallT_size y
          have hz3 := ba_size (smallT y) T
          clear hsp
          have hgt : ∀ h, (kidsM w.tree x)[pre.length]'h = y := fun h => by simpa using hge
          have hTx : (eachT t).Texts = t.Texts := rfl
          have hT0 : t.Texts[0] = T := by rw [List.getElem?_eq_getElem htl] at hT; exact Option.some.inj hT
          simp [hge, hlt]
          refine AWP.regionD [.d (.v (.string (smallT y)))] Tryz.mixed (by kernel_rfl) (by rfl) ?_
          simp [hit.ok, htl, hTx, hT0, hT, hss, hz3, a4]
          refine ⟨by omega, ?_⟩
          omega
        · intro _
          have hb1 : inR .i64 (2 * ((kidsM w.tree x).length : Int)) := by rw [inR_i64]; omega
          have hb2 : inR .i64 (1 + 2 * ((kidsM w.tree x).length : Int)) := by rw [inR_i64]; omega
          simp [-cB, hb1, hb2, e3]
          repeat' (first
            | (with_reducible refine And.intro ?_ ?_)
            | (refine condC_split (fun h => ?_) (fun h => ?_) <;> (try simp at h) <;> (try simp [-cB, *, hb1, hb2, e3]))
            | (refine AOps.pureC rfl (awk) rfl rfl (by simp) rfl ?_ <;> (try simp [-cB, *, hb1, hb2, e3]))
            | (refine AOps.lendC rfl (awk) rfl (by simp) rfl rfl (by simp) rfl ?_ <;> (try simp [-cB, *, hb1, hb2, e3]))
            | (refine AOps.pureG rfl (fun h => awk) rfl (by first | rfl | (simp; rfl)) (by simp) (by simp) rfl ?_ <;> (try simp [-cB, *, hb1, hb2, e3]))
            | (with_reducible intro _))
  · by_cases h1 : (60 : Int) < t.Things.length
    · refine Pure.run Tryz.func3 rfl (by simp [Tryz.f3]) ?_; simp [-cB, Tryz.f3]
      repeat' (first
        | (with_reducible refine And.intro ?_ ?_)
        | (refine condC_split (fun h => ?_) (fun h => ?_) <;> (try simp at h) <;> (try simp [-cB, *]))
        | (refine AOps.pureC rfl (hF) rfl rfl (by simp) rfl ?_ <;> (try simp [-cB, *]))
        | (refine AOps.pureC rfl (Pure.none (f := 9) (x := .d (.v (.bool true))) (Bool.false_ne_true h)) rfl rfl (by simp) rfl ?_ <;> (try simp [-cB, *]))
        | (refine AOps.pureC rfl (awk) rfl rfl (by simp) rfl ?_ <;> (try simp [-cB, *]))
        | (refine AOps.lendC rfl (hF) rfl (by simp) rfl rfl (by simp) rfl ?_ <;> (try simp [-cB, *]))
        | (refine AOps.lendC rfl (Pure.none (f := 9) (x := .d (.v (.bool true))) (Bool.false_ne_true h)) rfl (by simp) rfl rfl (by simp) rfl ?_ <;> (try simp [-cB, *]))
        | (refine AOps.lendC rfl (awk) rfl (by simp) rfl rfl (by simp) rfl ?_ <;> (try simp [-cB, *]))
        | (refine AOps.pureG rfl (fun h => hF) rfl (by first | rfl | (simp; rfl)) (by simp) (by simp) rfl ?_ <;> (try simp [-cB, *]))
        | (refine AOps.pureG rfl (fun h => Pure.none (f := 9) (x := .d (.v (.bool true))) (Bool.false_ne_true h)) rfl (by first | rfl | (simp; rfl)) (by simp) (by simp) rfl ?_ <;> (try simp [-cB, *]))
        | (refine AOps.pureG rfl (fun h => awk) rfl (by first | rfl | (simp; rfl)) (by simp) (by simp) rfl ?_ <;> (try simp [-cB, *]))
        | (with_reducible intro _))
    by_cases h2 : (100 : Int) < t.Texts.length
    · refine Pure.run Tryz.func3 rfl (by simp [Tryz.f3]) ?_; simp [-cB, Tryz.f3]
      repeat' (first
        | (with_reducible refine And.intro ?_ ?_)
        | (refine condC_split (fun h => ?_) (fun h => ?_) <;> (try simp at h) <;> (try simp [-cB, *]))
        | (refine AOps.pureC rfl (hF) rfl rfl (by simp) rfl ?_ <;> (try simp [-cB, *]))
        | (refine AOps.pureC rfl (Pure.none (f := 9) (x := .d (.v (.bool true))) (Bool.false_ne_true h)) rfl rfl (by simp) rfl ?_ <;> (try simp [-cB, *]))
        | (refine AOps.pureC rfl (awk) rfl rfl (by simp) rfl ?_ <;> (try simp [-cB, *]))
        | (refine AOps.lendC rfl (hF) rfl (by simp) rfl rfl (by simp) rfl ?_ <;> (try simp [-cB, *]))
        | (refine AOps.lendC rfl (Pure.none (f := 9) (x := .d (.v (.bool true))) (Bool.false_ne_true h)) rfl (by simp) rfl rfl (by simp) rfl ?_ <;> (try simp [-cB, *]))
        | (refine AOps.lendC rfl (awk) rfl (by simp) rfl rfl (by simp) rfl ?_ <;> (try simp [-cB, *]))
        | (refine AOps.pureG rfl (fun h => hF) rfl (by first | rfl | (simp; rfl)) (by simp) (by simp) rfl ?_ <;> (try simp [-cB, *]))
        | (refine AOps.pureG rfl (fun h => Pure.none (f := 9) (x := .d (.v (.bool true))) (Bool.false_ne_true h)) rfl (by first | rfl | (simp; rfl)) (by simp) (by simp) rfl ?_ <;> (try simp [-cB, *]))
        | (refine AOps.pureG rfl (fun h => awk) rfl (by first | rfl | (simp; rfl)) (by simp) (by simp) rfl ?_ <;> (try simp [-cB, *]))
        | (with_reducible intro _))
    cases h3 : fitsB t with
    | false =>
      rw [h3] at hF
      refine Pure.run Tryz.func3 rfl (by simp [Tryz.f3]) ?_; simp [-cB, Tryz.f3]
      repeat' (first
        | (with_reducible refine And.intro ?_ ?_)
        | (refine condC_split (fun h => ?_) (fun h => ?_) <;> (try simp at h) <;> (try simp [-cB, *]))
        | (refine AOps.pureC rfl (hF) rfl rfl (by simp) rfl ?_ <;> (try simp [-cB, *]))
        | (refine AOps.pureC rfl (Pure.none (f := 9) (x := .d (.v (.bool true))) (Bool.false_ne_true h)) rfl rfl (by simp) rfl ?_ <;> (try simp [-cB, *]))
        | (refine AOps.pureC rfl (awk) rfl rfl (by simp) rfl ?_ <;> (try simp [-cB, *]))
        | (refine AOps.lendC rfl (hF) rfl (by simp) rfl rfl (by simp) rfl ?_ <;> (try simp [-cB, *]))
        | (refine AOps.lendC rfl (Pure.none (f := 9) (x := .d (.v (.bool true))) (Bool.false_ne_true h)) rfl (by simp) rfl rfl (by simp) rfl ?_ <;> (try simp [-cB, *]))
        | (refine AOps.lendC rfl (awk) rfl (by simp) rfl rfl (by simp) rfl ?_ <;> (try simp [-cB, *]))
        | (refine AOps.pureG rfl (fun h => hF) rfl (by first | rfl | (simp; rfl)) (by simp) (by simp) rfl ?_ <;> (try simp [-cB, *]))
        | (refine AOps.pureG rfl (fun h => Pure.none (f := 9) (x := .d (.v (.bool true))) (Bool.false_ne_true h)) rfl (by first | rfl | (simp; rfl)) (by simp) (by simp) rfl ?_ <;> (try simp [-cB, *]))
        | (refine AOps.pureG rfl (fun h => awk) rfl (by first | rfl | (simp; rfl)) (by simp) (by simp) rfl ?_ <;> (try simp [-cB, *]))
        | (with_reducible intro _))
    | true =>
      have hR := refRight_ok t ht w hw (fits_dims h3).2.1 (fits_dims h3).1.2
      rw [h3] at hF
      cases h4 : rightB t w with
      | false =>
        rw [h4] at hR
        refine Pure.run Tryz.func3 rfl (by simp [Tryz.f3]) ?_; simp [-cB, Tryz.f3]
        repeat' (first
          | (with_reducible refine And.intro ?_ ?_)
          | (refine condC_split (fun h => ?_) (fun h => ?_) <;> (try simp at h) <;> (try simp [-cB, *]))
          | (refine AOps.pureC rfl (hF) rfl rfl (by simp) rfl ?_ <;> (try simp [-cB, *]))
          | (refine AOps.pureC rfl (hR) rfl rfl (by simp) rfl ?_ <;> (try simp [-cB, *]))
          | (refine AOps.pureC rfl (awk) rfl rfl (by simp) rfl ?_ <;> (try simp [-cB, *]))
          | (refine AOps.lendC rfl (hF) rfl (by simp) rfl rfl (by simp) rfl ?_ <;> (try simp [-cB, *]))
          | (refine AOps.lendC rfl (hR) rfl (by simp) rfl rfl (by simp) rfl ?_ <;> (try simp [-cB, *]))
          | (refine AOps.lendC rfl (awk) rfl (by simp) rfl rfl (by simp) rfl ?_ <;> (try simp [-cB, *]))
          | (refine AOps.pureG rfl (fun h => hF) rfl (by first | rfl | (simp; rfl)) (by simp) (by simp) rfl ?_ <;> (try simp [-cB, *]))
          | (refine AOps.pureG rfl (fun h => hR) rfl (by first | rfl | (simp; rfl)) (by simp) (by simp) rfl ?_ <;> (try simp [-cB, *]))
          | (refine AOps.pureG rfl (fun h => awk) rfl (by first | rfl | (simp; rfl)) (by simp) (by simp) rfl ?_ <;> (try simp [-cB, *]))
          | (with_reducible intro _))
      | true =>
        rw [h4] at hR
        by_cases h5 : x < 0
        · refine Pure.run Tryz.func3 rfl (by simp [Tryz.f3]) ?_; simp [-cB, Tryz.f3]
          repeat' (first
            | (with_reducible refine And.intro ?_ ?_)
            | (refine condC_split (fun h => ?_) (fun h => ?_) <;> (try simp at h) <;> (try simp [-cB, *]))
            | (refine AOps.pureC rfl (hF) rfl rfl (by simp) rfl ?_ <;> (try simp [-cB, *]))
            | (refine AOps.pureC rfl (hR) rfl rfl (by simp) rfl ?_ <;> (try simp [-cB, *]))
            | (refine AOps.pureC rfl (awk) rfl rfl (by simp) rfl ?_ <;> (try simp [-cB, *]))
            | (refine AOps.lendC rfl (hF) rfl (by simp) rfl rfl (by simp) rfl ?_ <;> (try simp [-cB, *]))
            | (refine AOps.lendC rfl (hR) rfl (by simp) rfl rfl (by simp) rfl ?_ <;> (try simp [-cB, *]))
            | (refine AOps.lendC rfl (awk) rfl (by simp) rfl rfl (by simp) rfl ?_ <;> (try simp [-cB, *]))
            | (refine AOps.pureG rfl (fun h => hF) rfl (by first | rfl | (simp; rfl)) (by simp) (by simp) rfl ?_ <;> (try simp [-cB, *]))
            | (refine AOps.pureG rfl (fun h => hR) rfl (by first | rfl | (simp; rfl)) (by simp) (by simp) rfl ?_ <;> (try simp [-cB, *]))
            | (refine AOps.pureG rfl (fun h => awk) rfl (by first | rfl | (simp; rfl)) (by simp) (by simp) rfl ?_ <;> (try simp [-cB, *]))
            | (with_reducible intro _))
        · have h6 : 100 < x := by
            by_cases h6 : 100 < x
            · exact h6
            · exact (hg ⟨by omega, by omega, h3, h4, by omega, by omega⟩).elim
          refine Pure.run Tryz.func3 rfl (by simp [Tryz.f3]) ?_; simp [-cB, Tryz.f3]
          repeat' (first
            | (with_reducible refine And.intro ?_ ?_)
            | (refine condC_split (fun h => ?_) (fun h => ?_) <;> (try simp at h) <;> (try simp [-cB, *]))
            | (refine AOps.pureC rfl (hF) rfl rfl (by simp) rfl ?_ <;> (try simp [-cB, *]))
            | (refine AOps.pureC rfl (hR) rfl rfl (by simp) rfl ?_ <;> (try simp [-cB, *]))
            | (refine AOps.pureC rfl (awk) rfl rfl (by simp) rfl ?_ <;> (try simp [-cB, *]))
            | (refine AOps.lendC rfl (hF) rfl (by simp) rfl rfl (by simp) rfl ?_ <;> (try simp [-cB, *]))
            | (refine AOps.lendC rfl (hR) rfl (by simp) rfl rfl (by simp) rfl ?_ <;> (try simp [-cB, *]))
            | (refine AOps.lendC rfl (awk) rfl (by simp) rfl rfl (by simp) rfl ?_ <;> (try simp [-cB, *]))
            | (refine AOps.pureG rfl (fun h => hF) rfl (by first | rfl | (simp; rfl)) (by simp) (by simp) rfl ?_ <;> (try simp [-cB, *]))
            | (refine AOps.pureG rfl (fun h => hR) rfl (by first | rfl | (simp; rfl)) (by simp) (by simp) rfl ?_ <;> (try simp [-cB, *]))
            | (refine AOps.pureG rfl (fun h => awk) rfl (by first | rfl | (simp; rfl)) (by simp) (by simp) rfl ?_ <;> (try simp [-cB, *]))
            | (with_reducible intro _))
end Go.Ab

namespace Go.Ab
open Go.Proofs
def u64 (n : Int) : Int := IntKind.wrap .u64 n
def seedM (n : Int) : Int := if u64 (u64 (u64 n * 2654435769) + 1) = 0 then 1 else u64 (u64 (u64 n * 2654435769) + 1)
theorem refSeed_ok (n : Int) : Pure Tryz.prog 82 [.d (.v (.int .i64 n))] (.d (.v (.int .u64 (seedM n)))) := by
  unfold seedM u64
  refine Pure.run Tryz.func82 rfl (by simp [Tryz.f82]) ?_; simp [-cB, Tryz.f82]
  refine condC_split (fun h => ?_) (fun h => ?_)
  · simp at h
    simp [h]
  · simp at h
    simp [h]
def afterM (inn : Int) : List GThing → Int → Int
  | [], _ => 0
  | y :: l, i => if y.Parent = inn then i else afterM inn l (i + 1)
theorem afterM_skip {inn : Int} : ∀ (l r : List GThing) (i : Int), (∀ y ∈ l, y.Parent ≠ inn) → afterM inn (l ++ r) i = afterM inn r (i + l.length)
  | [], r, i, _ => by simp
  | y :: l, r, i, h => by
    rw [List.cons_append, afterM, if_neg (h y (by simp)), afterM_skip l r _ (fun z hz => h z (by simp [hz]))]
    congr 1
    simp only [List.length_cons]; omega
theorem refAfter_ok (t : GTables) (ht : t.wf) (x : Nat) (hx : x ≤ t.Things.length) (inn : Int) : Pure Tryz.prog 83 [.agg (t.enc.map .d), .d (.v (.int .i64 x)), .d (.v (.int .i64 inn))] (.d (.v (.int .i64 (afterM inn (t.Things.drop x) x)))) := by
  have hlen := GTables.wl_Things ht
  refine Pure.run Tryz.func83 rfl (by simp [Tryz.f83]) ?_; simp [-cB, Tryz.f83]
  intro bs
  refine AWP.loopS [2, 3, 7] (t.Things.length - x) (fun i => [(7, .d (.v (.int .i64 ((x + i : Nat) : Int))))]) (fun _ => []) (fun i => ∀ y ∈ (t.Things.drop x).take i, y.Parent ≠ inn) (by rfl) (by simp) ?_
  intro i hi hH
  rcases Nat.lt_or_eq_of_le hi with hlt | heq
  · have hxi : x + i < t.Things.length := by omega
    have hxz : (x : Int) + i < t.Things.length := by omega
    have hd : t.Things.drop x = (t.Things.drop x).take i ++ t.Things[x + i] :: t.Things.drop (x + i + 1) := by
      conv => lhs; rw [← List.take_append_drop i (t.Things.drop x)]
      rw [List.drop_drop, List.drop_eq_getElem_cons hxi]
    have hl : ((t.Things.drop x).take i).length = i := by simp; omega
    have hz : ((x : Int) + i).toNat = x + i := by omega
    have hz0 : 0 ≤ (x : Int) + i := by omega
    have hgd : t.Things[x + i]?.getD GThing.zero = t.Things[x + i] := by rw [List.getElem?_eq_getElem hxi]; rfl
    have hin : inR .i64 ((x : Int) + i + 1) := by rw [inR_i64]; omega
    by_cases hp : (t.Things[x + i]).Parent = inn
    · have hv : afterM inn (t.Things.drop x) x = (x : Int) + i := by
        rw [hd, afterM_skip _ _ _ hH, afterM, if_pos hp, hl]
      simp [hxi, hxz, hp, hv, hz, hz0]
    · have hH' : ∀ y ∈ (t.Things.drop x).take (i + 1), y.Parent ≠ inn := by
        intro y hy
        rw [List.take_add_one] at hy
        rcases List.mem_append.1 hy with h | h
        · exact hH y h
        · rw [List.getElem?_drop, List.getElem?_eq_getElem hxi] at h
          simp at h
          rw [h]; exact hp
      simp [hxi, hxz, hp, hin, hz, hz0, hlt]
      exact ⟨by omega, fun y hy => hH' y hy⟩
  · have hxz : ¬ ((x : Int) + i < t.Things.length) := by omega
    have hv : afterM inn (t.Things.drop x) x = 0 := by
      have h1 : (t.Things.drop x).take i = t.Things.drop x := List.take_of_length_le (by simp; omega)
      rw [h1] at hH
      have := afterM_skip (inn := inn) (t.Things.drop x) [] x hH
      rw [List.append_nil] at this
      rw [this, afterM]
    simp [hxz, hv]
def childN (t : GTables) (k : Nat) : Int := if k = 0 then 0 else afterM k (t.Things.drop 1) 1
def nextN (t : GTables) (k : Nat) : Int := if (thingAt t k).Parent = 0 then 0 else afterM (thingAt t k).Parent (t.Things.drop (k + 1)) (k + 1)
def newM (t : GTables) : GWorld := ⟨t.Globals, t.Things.map (·.Parent), (List.range t.Things.length).map (childN t), (List.range t.Things.length).map (nextN t), t.Things.map (·.Flags), t.Things.flatMap (·.Props), List.replicate t.Daemons.length 0, seedM t.Release, 0, 0, 0, 0, 0⟩
theorem sum_le64 : ∀ (l : List GThing), (∀ y ∈ l, y.Props.length ≤ 64) → (List.map (fun a => a.Props.length) l).sum ≤ l.length * 64
  | [], _ => by simp
  | y :: l, h => by
    have h1 := sum_le64 l (fun z hz => h z (by simp [hz]))
    have h2 := h y (by simp)
    simp only [List.map_cons, List.sum_cons, List.length_cons]; omega
set_option maxHeartbeats 8000000 in
theorem refNew_ok (t : GTables) (ht : t.wf) (hT : t.Things.length ≤ 1000) (hP : ∀ y ∈ t.Things, y.Props.length ≤ 64) : Pure Tryz.prog 36 [.agg (t.enc.map .d)] (.agg ((newM t).enc.map .d)) := by
  have l1 := GTables.wl_Globals ht
  have l2 := GTables.wl_Daemons ht
  have l3 := GTables.wl_Things ht
  refine Pure.run Tryz.func36 rfl (by simp [Tryz.f36]) ?_; simp [-cB, Tryz.f36]
  intro bs
  refine AWP.regionT [some (0, 1), some (0, 1), some (0, 1), some (0, 1), some (0, 1), some (0, 1), some (0, 1), some (0, 1), some (0, 1), some (0, 1), some (0, 1), some (0, 1), none, none] [8, 11, 15] [.kn (fun v => ∃ ao, v = .slice ao 0 0), .d (.sl (encI t.Globals)), .d (.sl (encI (List.replicate t.Daemons.length 0))), .d (.v (.int .u64 (seedM t.Release)))] Tryz.mixed (by kernel_rfl) ?_
  simp [(refSeed_ok _).ok]
  have tS : tySl Tryz.prog 23 = some (3, 1, 8, [.int .i64 0]) := by kernel_rfl
  have tR : tySrc Tryz.prog 23 = true := by kernel_rfl
  have y0 : ∀ (ops : Array Oper) (s : St) (dst : Option Tmp) (pos : String) (after : Array Edge), YOp Tryz.prog ops ⟨dst, .buildSlice 23 0 #[], 23, pos, after, none⟩ s (.kn (fun v => ∃ ao, v = .slice ao 0 0)) := fun ops s dst pos after => yop_build0 tS
  refine ⟨y0 _ _ _ _ _, ?_⟩
  refine ⟨yop_append0 tS tR rfl rfl (by decide) (by simp [encI]) (by simp; omega), ?_⟩
  have y2 : ∀ (ops : Array Oper) (s : St) (dst : Option Tmp) (lo co : Operand) (pos : String) (after : Array Edge), s.ev lo = .d (.v (.int .i64 t.Daemons.length)) → s.ev co = .d (.v (.int .i64 t.Daemons.length)) →
      YOp Tryz.prog ops ⟨dst, .makeSlice 23 lo co, 23, pos, after, none⟩ s (.d (.sl (encI (List.replicate t.Daemons.length 0)))) := by
    intro ops s dst lo co pos after h1 h2
    have := yop_make (P := Tryz.prog) (ops := ops) (dst := dst) (ty := 23) (pos := pos) (after := after) (s := s) tS h1 h2 (by decide) (by omega) (by simp only [maxLen]; omega)
    simpa [encI] using this
  refine ⟨y2 _ _ _ _ _ _ _ rfl rfl, ?_⟩
  repeat' (first | exact y0 _ _ _ _ _ | exact y2 _ _ _ _ _ _ _ rfl rfl | exact yop_append0 tS tR rfl rfl (by decide) (by simp [encI]) (by simp; omega) | with_reducible refine And.intro ?_ ?_)
  intro bs1
  refine AWP.weaken (s' := ⟨[(4, .d (.v (.int .i64 0))), (3, .bp 3 0), (2, .bp 2 0), (1, .bp 1 0)], _⟩) (Wk.pick [4, 3, 2, 1] [3, 2, 1] (by rfl) (by decide) (by simp [St.pick, St.on, V.on, V.ons])) ?_
  refine AWP.weaken (Wk.ownBox 3 1 5301 (e := 3) (k := 1) rfl rfl (by simp [keys])) ?_
  refine AWP.weaken (Wk.ownBox 3 2 5302 (e := 3) (k := 1) rfl rfl (by simp [keys, Heap.upd])) ?_
  refine AWP.weaken (Wk.ownBox 3 3 5303 (e := 3) (k := 1) rfl rfl (by simp [keys, Heap.upd])) ?_
  refine AWP.weaken (Wk.ownBox 3 4 5304 (e := 3) (k := 1) rfl rfl (by simp [keys, Heap.upd])) ?_
  refine AWP.weaken (Wk.ownBox 3 5 5305 (e := 3) (k := 1) rfl rfl (by simp [keys, Heap.upd])) ?_
  refine AWP.weaken (s' := ⟨[(4, .d (.v (.int .i64 0))), (3, .bp 3 0), (2, .bp 2 0), (1, .bp 1 0)],
    [(5301, .row 3 1 []), (5302, .row 3 1 []), (5303, .row 3 1 []), (5304, .row 3 1 []), (5305, .row 3 1 []),
     (3, .box (bs1 3 + 1) 31 [.d (.sl (encI t.Globals)), .rv 5301, .rv 5302, .rv 5303, .rv 5304, .rv 5305, .d (.sl (encI (List.replicate t.Daemons.length 0))), .d (.v (.int .u64 (seedM t.Release))), .d (.v (.int .i64 0)), .d (.v (.int .i64 0)), .d (.v (.int .i64 0)), .d (.v (.int .i64 0)), .d (.v (.int .i64 0))]), _, _]⟩) (Wk.pick [4, 3, 2, 1] [5301, 5302, 5303, 5304, 5305, 3, 2, 1] (by rfl) (by decide) (by simp [St.pick, St.on, V.on, V.ons, Heap.upd])) ?_
  refine AWP.loopL [1, 2, 3, 4] t.Things (fun pre => [(4, .d (.v (.int .i64 pre.length)))]) (fun pre => [(5301, .row 3 1 (dd (encI (pre.map (·.Parent))))), (5302, .row 3 1 (dd (encI ((List.range pre.length).map (childN t))))), (5303, .row 3 1 (dd (encI ((List.range pre.length).map (nextN t))))), (5304, .row 3 1 (dd (encI (pre.map (·.Flags))))), (5305, .row 3 1 (dd (encI (pre.flatMap (·.Props)))))]) (fun _ => True) (by rfl) (by omega) (by simp [encI]) ?_ ?_
  · rintro pre y post hsp hH hlt hge a4
    have hy : thingAt t pre.length = y := by rw [thingAt, hsp]; simp
    have hA := refAfter_ok t ht 1 (by omega) pre.length
    have hB := refAfter_ok t ht (pre.length + 1) (by omega) y.Parent
    have hps := sum_le64 pre (fun z hz => hP z (by rw [hsp]; simp [hz]))
    have hpy := hP y (by rw [hsp]; simp)
    have hpl : pre.length ≤ 1000 := by omega
    clear hsp
    have h64 : inR .i64 ((pre.length : Int) + 1) := a4
    have hc : childN t pre.length = if pre = [] then 0 else afterM pre.length t.Things.tail 1 := by
      unfold childN
      cases pre <;> simp
    have hn : nextN t pre.length = if y.Parent = 0 then 0 else afterM y.Parent (t.Things.drop (pre.length + 1)) (pre.length + 1) := by
      unfold nextN
      rw [hy]
    by_cases hp0 : pre = []
    · subst hp0
      simp only [List.length_nil, Int.natCast_zero, Int.zero_add, Nat.zero_add] at hge hlt hy h64 a4 hB hn
      have hc' : childN t 0 = 0 := rfl
      by_cases hy0 : y.Parent = 0
      · have hn' : nextN t 0 = 0 := by rw [hn, if_pos hy0]
        clear hc hn hA hB
        simp [-cB, hge, hlt]
        repeat' (first
          | (with_reducible refine And.intro ?_ ?_)
          | (refine condC_split (fun h => ?_) (fun h => ?_) <;> (try simp at h) <;> (try simp [-cB, *]))
          | (with_reducible intro _))
        all_goals (try omega)
        refine AWP.regionM0 [some (0, 1), some (0, 1), some (0, 0), some (0, 0), some (0, 0), some (0, 0), some (0, 0), some (0, 0), none, none, some (2, 2), none] [] Tryz.mixed (by kernel_rfl) ?_
        simp [-cB, *]
        refine AWP.regionM0 [some (0, 0), some (0, 0), some (0, 0), some (0, 0), some (0, 0), some (0, 0), some (0, 0), some (0, 0), none, some (1, 1), none] [] Tryz.mixed (by kernel_rfl) ?_
        simp [-cB, List.range_succ, *]
        simp [dd, encI]
        omega
      · have hn' : nextN t 0 = afterM y.Parent (t.Things.drop 1) 1 := by
          rw [hn, if_neg hy0]
        clear hc hn hA
        simp [-cB, hge, hlt]
        repeat' (first
          | (with_reducible refine And.intro ?_ ?_)
          | (refine condC_split (fun h => ?_) (fun h => ?_) <;> (try simp at h) <;> (try simp [-cB, *]))
          | (refine AOps.pureC rfl (hB) rfl rfl (by simp) rfl ?_ <;> (try simp [-cB, *]))
          | (refine AOps.lendC rfl (hB) rfl (by simp) rfl rfl (by simp) rfl ?_ <;> (try simp [-cB, *]))
          | (refine AOps.pureG rfl (fun h => hB) rfl (by first | rfl | (simp; rfl)) (by simp) (by simp) rfl ?_ <;> (try simp [-cB, *]))
          | (with_reducible intro _))
        all_goals (try omega)
        refine AWP.regionM0 [some (0, 1), some (0, 1), some (0, 0), some (0, 0), some (0, 0), some (0, 0), some (0, 0), some (0, 0), none, none, some (2, 2), none] [] Tryz.mixed (by kernel_rfl) ?_
        simp [-cB, *]
        refine AWP.regionM0 [some (0, 0), some (0, 0), some (0, 0), some (0, 0), some (0, 0), some (0, 0), some (0, 0), some (0, 0), none, some (1, 1), none] [] Tryz.mixed (by kernel_rfl) ?_
        simp [-cB, List.range_succ, *]
        simp [dd, encI]
        omega
    · have hpp : 0 < pre.length := List.length_pos_iff.2 hp0
      rw [if_neg hp0] at hc
      by_cases hy0 : y.Parent = 0
      · rw [if_pos hy0] at hn
        clear hB
        simp [-cB, hge, hlt, hpp]
        repeat' (first
          | (with_reducible refine And.intro ?_ ?_)
          | (refine condC_split (fun h => ?_) (fun h => ?_) <;> (try simp at h) <;> (try simp [-cB, *]))
          | (refine AOps.pureC rfl (hA) rfl rfl (by simp) rfl ?_ <;> (try simp [-cB, *]))
          | (refine AOps.lendC rfl (hA) rfl (by simp) rfl rfl (by simp) rfl ?_ <;> (try simp [-cB, *]))
          | (refine AOps.pureG rfl (fun h => hA) rfl (by first | rfl | (simp; rfl)) (by simp) (by simp) rfl ?_ <;> (try simp [-cB, *]))
          | (with_reducible intro _))
        all_goals (try omega)
        refine AWP.regionM0 [some (0, 1), some (0, 1), some (0, 0), some (0, 0), some (0, 0), some (0, 0), some (0, 0), some (0, 0), none, none, some (2, 2), none] [] Tryz.mixed (by kernel_rfl) ?_
        simp [-cB, *]
        refine ⟨by omega, ?_⟩
        refine AWP.regionM0 [some (0, 0), some (0, 0), some (0, 0), some (0, 0), some (0, 0), some (0, 0), some (0, 0), some (0, 0), none, some (1, 1), none] [] Tryz.mixed (by kernel_rfl) ?_
        simp [-cB, List.range_succ, *]
        try omega
      · rw [if_neg hy0] at hn
        simp [-cB, hge, hlt, hpp]
        repeat' (first
          | (with_reducible refine And.intro ?_ ?_)
          | (refine condC_split (fun h => ?_) (fun h => ?_) <;> (try simp at h) <;> (try simp [-cB, *]))
          | (refine AOps.pureC rfl (hA) rfl rfl (by simp) rfl ?_ <;> (try simp [-cB, *]))
          | (refine AOps.pureC rfl (hB) rfl rfl (by simp) rfl ?_ <;> (try simp [-cB, *]))
          | (refine AOps.lendC rfl (hA) rfl (by simp) rfl rfl (by simp) rfl ?_ <;> (try simp [-cB, *]))
          | (refine AOps.lendC rfl (hB) rfl (by simp) rfl rfl (by simp) rfl ?_ <;> (try simp [-cB, *]))
          | (refine AOps.pureG rfl (fun h => hA) rfl (by first | rfl | (simp; rfl)) (by simp) (by simp) rfl ?_ <;> (try simp [-cB, *]))
          | (refine AOps.pureG rfl (fun h => hB) rfl (by first | rfl | (simp; rfl)) (by simp) (by simp) rfl ?_ <;> (try simp [-cB, *]))
          | (with_reducible intro _))
        all_goals (try omega)
        refine AWP.regionM0 [some (0, 1), some (0, 1), some (0, 0), some (0, 0), some (0, 0), some (0, 0), some (0, 0), some (0, 0), none, none, some (2, 2), none] [] Tryz.mixed (by kernel_rfl) ?_
        simp [-cB, *]
        refine ⟨by omega, ?_⟩
        refine AWP.regionM0 [some (0, 0), some (0, 0), some (0, 0), some (0, 0), some (0, 0), some (0, 0), some (0, 0), some (0, 0), none, some (1, 1), none] [] Tryz.mixed (by kernel_rfl) ?_
        simp [-cB, List.range_succ, *]
        try omega
  · intro _
    simp [-cB, newM, GWorld.enc]
end Go.Ab

namespace Go.Ab
def D.deep : Nat → D → D
  | 0, x => x.nn
  | k + 1, .sl ys => .sl (ys.map (·.map (D.deep k)))
  | _ + 1, x => x.nn
theorem RelD.deep {w : World} {O : Nat → Prop} : ∀ (k : Nat) {x : Value} {y : D}, RelD w O x y → RelD w O x (y.deep k)
  | 0, x, y, h => h.nn
  | k + 1, x, .v z, h => by rw [D.deep]; exact h.nn; simp
  | k + 1, x, .ifc t a cs, h => by rw [D.deep]; exact h.nn; simp
  | k + 1, x, .sl ys, h => by
    rw [D.deep]
    cases h with
    | sl a n cap xs k' b off f hn hcap hmax ha hk hc hr =>
      refine .sl a n cap _ k' b off f (by simpa using hn) hcap hmax ha ?_ hc ?_
      · intro i x hx
        rw [List.getElem?_map] at hx
        obtain ⟨z, hz, rfl⟩ := Option.map_eq_some_iff.1 hx
        rw [List.length_map]; exact hk i z hz
      · intro i j x y hx hy
        rw [List.getElem?_map] at hx
        obtain ⟨z, hz, rfl⟩ := Option.map_eq_some_iff.1 hx
        rw [List.getElem?_map] at hy
        obtain ⟨u, hu, rfl⟩ := Option.map_eq_some_iff.1 hy
        exact (hr i j z u hz hu).deep k
def V.deep1 (k : Nat) : V → V
  | .d y => .d (y.deep k)
  | v => v
def V.deep (k : Nat) : V → V
  | .d y => .d (y.deep k)
  | .agg cs => .agg (cs.map (V.deep1 k))
  | v => v
theorem RelV.deep1 {w : World} {O : Nat → Prop} {m : Nat → Option Value} (k : Nat) {x : Value} {y : V} (h : RelV w O m x y) : RelV w O m x (y.deep1 k) := by
  unfold V.deep1
  split
  · exact .d _ _ (h.d_inv.deep k)
  · exact h
theorem RelV.deep {w : World} {O : Nat → Prop} {m : Nat → Option Value} (k : Nat) {x : Value} {y : V} (h : RelV w O m x y) : RelV w O m x (y.deep k) := by
  unfold V.deep
  split
  · exact .d _ _ (h.d_inv.deep k)
  · cases h with
    | agg vs cs hs h1 h =>
      refine .agg vs _ (by simpa using hs) h1 ?_
      intro j x y hx hy
      rw [List.getElem?_map] at hy
      obtain ⟨z, hz, rfl⟩ := Option.map_eq_some_iff.1 hy
      exact (h j x z hx hz).deep1 k
  · exact h
theorem ACalls.deep (k : Nat) {P : Program} {f : FuncId} {args args' : List V} {L : Heap} {R : AE → Heap → Prop} (h : ACalls P f args' L R) (ha : args.map (V.deep k) = args') : ACalls P f args L R := by
  intro fo m w xs hi hx
  refine h fo m w xs hi ⟨by rw [hx.1, ← ha, List.length_map], ?_⟩
  intro j x y h1 h2
  rw [← ha, List.getElem?_map] at h2
  obtain ⟨z, hz, rfl⟩ := Option.map_eq_some_iff.1 h2
  exact (hx.2 j x z h1 hz).deep k
theorem Pure.deep (k : Nat) {P : Program} {f : FuncId} {args args' : List V} {x : V} (h : Pure P f args' x) (ha : args.map (V.deep k) = args') (ho : V.ons [] args = true) : Pure P f args x :=
  ⟨h.en, ho, h.rn, h.calls.deep k ha⟩
def Res.deep (k : Nat) : Res → Res
  | .box b t cs => .box b t (cs.map (V.deep1 k))
  | r => r
def St.deep (k : Nat) (s : St) : St := ⟨s.fr.map fun p => (p.1, p.2.deep k), s.L.map fun p => (p.1, p.2.deep k)⟩
theorem Wk.deep (k : Nat) {n : Nat} {s s' : St} (h : s.deep k = s') : Wk n s s' := by
  subst h
  intro fo m a w g
  have hi := g.inv
  have hk : keys (St.deep k s).L = keys s.L := by simp [keys, St.deep, Function.comp_def]
  refine ⟨m, ⟨g.size, ?_, ⟨by rw [hk]; exact hi.nodup, fun h x hx => by rw [hk]; exact hi.dom h x hx, hi.apart, hi.others, hi.folt, ?_, hi.glob⟩, g.defers⟩, Step.refl w _⟩
  · intro t x hx
    obtain ⟨p, hp, he⟩ := List.mem_map.1 hx
    simp only [Prod.mk.injEq] at he
    obtain ⟨rfl, rfl⟩ := he
    obtain ⟨h1, h2⟩ := g.fr p.1 p.2 hp
    exact ⟨h1, h2.deep k⟩
  · intro h r hr
    obtain ⟨p, hp, he⟩ := List.mem_map.1 hr
    simp only [Prod.mk.injEq] at he
    obtain ⟨rfl, rfl⟩ := he
    obtain ⟨x, hx, hh⟩ := hi.holds p.1 p.2 hp
    refine ⟨x, hx, ?_⟩
    generalize p.2 = q at hh
    cases q with
    | row ty k xs => exact hh
    | env A => exact hh
    | mp es => exact hh
    | box b ty cs =>
      obtain ⟨bb, h0, cur, e, hb, hs, h1, h2⟩ := hh
      refine ⟨bb, h0, cur, e, hb, by simpa using hs, ?_, ?_⟩
      · exact h1
      · intro j v z hv hz
        rw [List.getElem?_map] at hz
        obtain ⟨y, hy, rfl⟩ := Option.map_eq_some_iff.1 hz
        exact (h2 j v y hv hy).deep1 k
end Go.Ab

namespace Go.Ab
open Go.Proofs
def litG (n : Int) : GExpr := .mk 1 0 n ⟨#[]⟩ []
theorem lit_ok (n : Int) : Pure Tryz.prog 35 [.d (.v (.int .i64 n))] (.agg ((litG n).enc.map .d)) := by
  refine Pure.run Tryz.func35 rfl (by simp [Tryz.f35]) ?_; simp [-cB, Tryz.f35]
  simp [litG, GExpr.enc, GExpr.encs]
def tinyT : GTables := { GTables.zero with Texts := [⟨#[97]⟩], Flags := 4, Things := [{ GThing.zero with Text := -1 }, { GThing.zero with Text := -1, Parent := 2 }, { GThing.zero with Text := -1, Room := true }], Params := [0], Locals := [0] }
def thingV (p : Int) (r : Bool) : List D := [.v (.int .i64 0), .v (.int .i64 (-1)), .v (.int .i64 p), .v (.int .i64 0), .v (.bool r), .v (.slice none 0 0), .v (.slice none 0 0), .v (.slice none 0 0), .v (.slice none 0 0)]
def tinyV (x : D) : List V := [.d (.v (.int .i64 0)), .d (.v (.int .i64 0)), .d (.v (.int .i64 0)), .d (.v (.int .i64 0)), .d (.sl [[.v (.string ⟨#[97]⟩)]]), .d (.v (.int .i64 4)), .d (.sl []), .d (.sl []), .d (.sl [thingV 0 false, thingV 2 false, thingV 0 true]), .d (.sl []), .d (.sl []), .d (.sl []), .d (.sl []), .d (.sl [[.v (.int .i64 0)]]), .d (.sl [[.v (.int .i64 0)]]), .d (.sl [[x]])]
theorem tiny_ok (x : D) : Pure Tryz.prog 34 [.d x] (.agg (tinyV x)) := by
  unfold tinyV thingV
  refine Pure.run Tryz.func34 rfl (by simp [Tryz.f34]) ?_; simp [-cB, Tryz.f34]
def sayE3 : GStmt := .mk 1 0 ⟨#[]⟩ [.mk 6 10 0 ⟨#[]⟩ [litG 1, litG 2]] [] []
def retE5 : GStmt := .mk 12 0 ⟨#[]⟩ [litG 5] [] []
def bookA : GBook := ⟨tinyT, [[sayE3, retE5]]⟩
theorem tinyT_fits : fitsB tinyT = true := by decide +kernel
theorem tinyT_wf : tinyT.wf := by
  unfold tinyT GTables.wf
  simp [GTables.zero, GThing.wf, GThing.zero, inR_i64]
  decide
def worldA : GWorld := newM tinyT
theorem run9 : ∃ σ', callX ⟨bookA, ⟨0, 0, 0⟩, 9⟩ 40 (run0 worldA) 0 [] = some (σ', .nrm 5) ∧ σ'.Fuel = 2 ∧ σ'.Out = ⟨#[51]⟩ := by
  refine ⟨((callX ⟨bookA, ⟨0, 0, 0⟩, 9⟩ 40 (run0 worldA) 0 []).getD (run0 worldA, .over)).1, by kernel_rfl, by kernel_rfl, by kernel_rfl⟩
theorem run1 : ∃ σ', callX ⟨bookA, ⟨0, 0, 0⟩, 1⟩ 40 (run0 worldA) 0 [] = some (σ', .thr 19) ∧ σ'.Out = ⟨#[51]⟩ := by
  refine ⟨((callX ⟨bookA, ⟨0, 0, 0⟩, 1⟩ 40 (run0 worldA) 0 []).getD (run0 worldA, .over)).1, by kernel_rfl, by kernel_rfl⟩
def rowEx : List (List D) := [[.v (.int .i64 6), .v (.int .i64 10), .v (.int .i64 0), .v (.string ⟨#[]⟩), .sl ([(litG 1).enc, (litG 2).enc].map (·.map D.nn))]]
def rowSt : List (List D) := [[.v (.int .i64 1), .v (.int .i64 0), .v (.string ⟨#[]⟩), .sl (rowEx.map (·.map D.nn)), .v (.slice none 0 0), .v (.slice none 0 0)], [.v (.int .i64 12), .v (.int .i64 0), .v (.string ⟨#[]⟩), .sl ([(litG 5).enc].map (·.map D.nn)), .v (.slice none 0 0), .v (.slice none 0 0)]]
theorem eaAwake_ok : Pure Tryz.prog 10 [] (.d (.v (.bool true))) := by
  have hN : Pure Tryz.prog 36 [.agg (tinyT.enc.map .d)] (.agg (worldA.enc.map .d)) := refNew_ok tinyT tinyT_wf (by decide) (by decide)
  refine Pure.run Tryz.func10 rfl (by simp [Tryz.f10]) ?_; simp [-cB, Tryz.f10]
  repeat' (first
    | (with_reducible refine And.intro ?_ ?_)
    | (refine condC_split (fun h => ?_) (fun h => ?_) <;> (try simp at h) <;> (try simp [-cB, *]))
    | (refine AOps.pureC rfl (lit_ok _) rfl rfl (by simp) rfl ?_ <;> (try simp [-cB, *]))
    | (refine AOps.lendC rfl (lit_ok _) rfl (by simp) rfl rfl (by simp) rfl ?_ <;> (try simp [-cB, *]))
    | (refine AOps.pureG rfl (fun h => lit_ok _) rfl (by first | rfl | (simp; rfl)) (by simp) (by simp) rfl ?_ <;> (try simp [-cB, *]))
    | (with_reducible intro _))
  refine AOps.weaken (Wk.freezeN 7 (ys := [(litG 1).enc, (litG 2).enc]) rfl) ?_
  refine AOps.weaken (Wk.freezeN 12 (ys := [(litG 5).enc]) rfl) ?_
  refine AOps.weaken (Wk.freezeN 9 (ys := rowEx) rfl) ?_
  refine AOps.weaken (Wk.freezeN 14 (ys := rowSt) rfl) ?_
  refine AOps.weaken (s' := ⟨[(14, .d (.sl (rowSt.map (·.map D.nn)))), (0, .d (.v (.bool false)))], []⟩) (Wk.pick [14, 0] [] (by rfl) (by decide) (by rfl)) ?_
  refine AOps.pureC rfl (tiny_ok _) rfl rfl (by simp) rfl ?_
  simp [-cB]
  intro bs
  refine ⟨rfl, by decide, ?_⟩
  refine AOps.weaken (Wk.pick [17, 1, 0] [1] (by rfl) (by decide) (by rfl)) ?_
  refine AOps.weaken (s' := ⟨[(17, .agg (tinyT.enc.map .d)), (1, .bp 1 0), (0, .d (.v (.bool false)))], [(1, .box (bs 0 + 1) 50 (bookA.enc.map .d))]⟩) (Wk.deep 6 (by rfl)) ?_
  obtain ⟨σ9, e1, e2, e3⟩ := run9
  obtain ⟨σ1, f1, f2⟩ := run1
  have hR9 : Pure Tryz.prog 11 [.agg (bookA.enc.map .d), .agg (worldA.enc.map .d), .d (.v (.int .i64 0)), .d (.v (.slice none 0 0)), .agg ((⟨0, 0, 0⟩ : GEnv).enc.map .d), .d (.v (.int .i64 9))] _ :=
    (Run_ok (B := bookA) (W := worldA) (r := 0) (a := []) (E := ⟨0, 0, 0⟩) (fuel := 9) (g := 40) tinyT_fits (by decide) (by decide) (by decide) e1 (by intro n h; cases h) (by rw [e3]; decide)).nn (by rfl) (by decide)
  have hR1 : Pure Tryz.prog 11 [.agg (bookA.enc.map .d), .agg (worldA.enc.map .d), .d (.v (.int .i64 0)), .d (.v (.slice none 0 0)), .agg ((⟨0, 0, 0⟩ : GEnv).enc.map .d), .d (.v (.int .i64 1))] _ :=
    (Run_ok (B := bookA) (W := worldA) (r := 0) (a := []) (E := ⟨0, 0, 0⟩) (fuel := 1) (g := 40) tinyT_fits (by decide) (by decide) (by decide) f1 (by intro n h; cases h) (by rw [f2]; decide)).nn (by rfl) (by decide)
  clear e1 f1
  generalize bookA = B at *
  generalize worldA = W at *
  refine AOps.pureC rfl (hN) rfl rfl (by simp) rfl ?_
  simp [-cB]
  intro bs2
  refine AOps.pureC rfl (hR9) rfl rfl (by simp) rfl ?_
  simp [-cB]
  intro bs3
  refine AOps.pureC rfl (hR1) rfl rfl (by simp) rfl ?_
  simp [-cB]
  simp [toldX, e2, e3, f2]
end Go.Ab
