/-
  The texts Bright Bfits2 Bfits3 Bfits4 Bfits5 Bright2 Df Dg Dh Di Rj Nl Bclone Bups Nx Bkids Bcopy Nest2 Bleave Bmove Battr Battr2 Nest3 Bref20 Bmix Bval Bval2 Lex Lmach Lsim Lpeep Lpeep2 Lcode Lmc Lasm Gfew Gbound Gref Pd, one behind the other.
-/
import Derived.Test.YtnajleligcjlkaaGreatDoorMg4
import Derived.RecoverIn
import Derived.WalkSpells
set_option linter.unusedSimpArgs false
set_option linter.unusedVariables false
namespace Go.Ab
open Go.Proofs
theorem kidsM_mem {t : Tree} {x y : Int} (h : y ∈ kidsM t x) : 1 ≤ y ∧ y < t.Par.length := by
  unfold kidsM at h
  split at h
  · exact chainM_mem h
  · cases h
theorem kidsM_len (t : Tree) (x : Int) : (kidsM t x).length ≤ t.Par.length := by
  unfold kidsM
  split
  · exact chainM_len _ _ _ _
  · simp
theorem getD_atI (l : List Int) (x : Int) (h : 0 ≤ x) : l[x.toNat]?.getD 0 = atI l x := by rw [atI, if_neg (by omega)]
theorem elem_atI (l : List Int) (x : Int) (h : 0 ≤ x) (h2 : x.toNat < l.length) : l[x.toNat] = atI l x := by
  rw [atI, if_neg (by omega), List.getElem?_eq_getElem h2]; rfl
def listedP (t : Tree) (x : Int) (L : List Int) (y : Int) : Bool := decide (atI t.Par y = x) && decide (L.count y = 1)
theorem listedB_eq (t : Tree) (x : Int) : listedB t x = ((kidsM t x).all (listedP t x (kidsM t x)) && decide ((match (kidsM t x).getLast? with | some y => atI t.Nxt y | none => atI t.Chi x) = 0)) := rfl
theorem refListed_ok (w : GWorld) (hw : w.wf) (hc : w.Child.length = w.Parent.length) (hn : w.Next.length = w.Parent.length) (x : Int) (hx : 1 ≤ x ∧ x < w.Parent.length) :
    Pure Tryz.prog 77 [.agg (w.enc.map .d), .d (.v (.int .i64 x))] (.d (.v (.bool (listedB w.tree x)))) := by
  have hl := GWorld.wl_Parent hw
  have e1 : w.tree.Par = w.Parent := rfl
  have e2 : w.tree.Chi = w.Child := rfl
  have e3 : w.tree.Nxt = w.Next := rfl
  have hc1 := refChildren_ok w hw x
  have hk := fun y => kidsM_mem (t := w.tree) (x := x) (y := y)
  have hkl := kidsM_len w.tree x
  rw [e1] at hkl hk
  rw [listedB_eq, e2, e3]
  generalize kidsM w.tree x = L at *
  have hcount := fun y => (refCount_ok L (by omega) y).ok
  have hgx := getD_atI w.Child x (by omega)
  have hgx2 := elem_atI w.Child x (by omega) (by omega)
  refine Pure.run Tryz.func77 rfl (by simp [Tryz.f77]) ?_; simp [-cB, Tryz.f77]
  try intro (_ : Nat → Nat)
  repeat' (first
    | (with_reducible refine And.intro ?_ ?_)
    | (refine condC_split (fun h => ?_) (fun h => ?_) <;> (try simp at h) <;> (try simp [-cB, *]))
    | (refine AOps.pureC rfl (hc1) rfl rfl (by simp) rfl ?_ <;> (try simp [-cB, *]))
    | (refine AOps.lendC rfl (hc1) rfl (by simp) rfl rfl (by simp) rfl ?_ <;> (try simp [-cB, *]))
    | (refine AOps.pureG rfl (fun h => hc1) rfl (by first | rfl | (simp; rfl)) (by simp) (by simp) rfl ?_ <;> (try simp [-cB, *]))
    | (with_reducible intro _))
  clear hc1
  refine AWP.loopL [1, 2, 5, 6] L (fun pre => [(6, .d (.v (.int .i64 pre.length)))]) (fun _ => []) (fun pre => pre.all (listedP w.tree x L) = true) (by rfl) (by omega) (by simp) ?_ ?_
  · rintro pre y post hsp hH hlt hge a4
    have hy := hk y (by rw [hsp]; simp)
    have hall : L.all (listedP w.tree x L) = (listedP w.tree x L y && post.all (listedP w.tree x L)) := by
      have : (pre ++ y :: post).all (listedP w.tree x L) = (listedP w.tree x L y && post.all (listedP w.tree x L)) := by
        rw [List.all_append, hH, List.all_cons, Bool.true_and]
      rw [← hsp] at this
      exact this
    have hgy := getD_atI w.Parent y (by omega)
    have hgy2 := elem_atI w.Parent y (by omega) (by omega)
    have hpre : (pre ++ [y]).all (listedP w.tree x L) = listedP w.tree x L y := by rw [List.all_append, hH]; simp
    have hp : listedP w.tree x L y = (decide (atI w.Parent y = x) && decide (L.count y = 1)) := rfl
    have hcond : (!decide (atI w.Parent y = x) || ((L.count y : Int) != 1)) = !listedP w.tree x L y := by
      rw [hp, Bool.eq_iff_iff]
      simp
      omega
    clear hsp
    simp [-cB, hlt, hge]
    refine AWP.regionD [.d (.v (.int .i64 (L.count y)))] Tryz.mixed (by kernel_rfl) (by rfl) ?_
    simp [-cB, hlt, hge, hgy, hgy2, hcount y]
    simp only [hcond]
    have hH' : ∀ z ∈ pre, listedP w.tree x L z = true := List.all_eq_true.1 hH
    refine ⟨by omega, ?_⟩
    cases hb : listedP w.tree x L y with
    | false => simp [hall, hb]
    | true =>
      simp [hb, a4]
      rintro z (hz | rfl)
      · exact hH' z hz
      · exact hb
  · intro hH
    cases hL : L.getLast? with
    | none =>
      have : L = [] := List.getLast?_eq_none_iff.1 hL
      subst this
      simp [-cB, hgx, hgx2]
      omega
    | some y =>
      have hne : L ≠ [] := by rintro rfl; cases hL
      have hpos : 0 < L.length := List.length_pos_iff.2 hne
      have hyL : y ∈ L := List.mem_of_getLast? hL
      have hy := hk y hyL
      have hgy := getD_atI w.Next y (by omega)
      have hgy2 := elem_atI w.Next y (by omega) (by omega)
      have hlast : L[L.length - 1]? = some y := by rw [← hL, List.getLast?_eq_getElem?]
      have hlast2 : L[L.length - 1]'(by omega) = y := (List.getElem?_eq_some_iff.1 hlast).2
      have hnat : ((L.length : Int) - 1).toNat = L.length - 1 := by omega
      simp [-cB, hgx, hgx2, hpos]
      refine ⟨by omega, ?_⟩
      refine AWP.regionD [] Tryz.mixed (by kernel_rfl) (by rfl) ?_
      simp [-cB, hnat, hlast, hlast2, hgy, hgy2, hH]
      exact ⟨by rw [inR_i64]; omega, by omega, by omega, by omega⟩
def nodeB (t : Tree) (x : Int) : Bool :=
  !(decide (atI t.Par x ≠ 0) && !isT t.Par.length (atI t.Par x)) && !(decide (atI t.Par x = 0) && decide (atI t.Nxt x ≠ 0)) && listedB t x &&
    !(decide (atI t.Par x ≠ 0) && decide ((kidsM t (atI t.Par x)).count x ≠ 1)) && !(isT t.Par.length (atI t.Par x) && decide (x ∈ upsM t (atI t.Par x)))
def nestedB (t : Tree) : Bool :=
  decide (t.Par.length ≠ 0) && decide (t.Chi.length = t.Par.length) && decide (t.Nxt.length = t.Par.length) && decide (atI t.Par 0 = 0) && decide (atI t.Chi 0 = 0) && decide (atI t.Nxt 0 = 0) &&
    (List.range (t.Par.length - 1)).all fun k => nodeB t (k + 1)
set_option maxRecDepth 20000 in
set_option maxHeartbeats 4000000 in
theorem refNested_ok (w : GWorld) (hw : w.wf) : Pure Tryz.prog 27 [.agg (w.enc.map .d)] (.d (.v (.bool (nestedB w.tree)))) := by
  have hl := GWorld.wl_Parent hw
  have e1 : w.tree.Par = w.Parent := rfl
  have e2 : w.tree.Chi = w.Child := rfl
  have e3 : w.tree.Nxt = w.Next := rfl
  unfold nestedB
  rw [e1, e2, e3]
  have g1 := getD_atI w.Parent 0 (by omega)
  have g2 := getD_atI w.Child 0 (by omega)
  have g3 := getD_atI w.Next 0 (by omega)
  simp at g1 g2 g3
  by_cases h1 : w.Parent.length = 0
  · refine Pure.run Tryz.func27 rfl (by simp [Tryz.f27, h1]) ?_; simp [-cB, Tryz.f27, h1]
  have h1' : w.Parent ≠ [] := fun h => h1 (by simp [h])
  by_cases h2 : ¬ w.Child.length = w.Parent.length
  · have h2' : ¬ ((w.Child.length : Int) = w.Parent.length) := by omega
    refine Pure.run Tryz.func27 rfl (by simp [Tryz.f27, h1, h1', h2, h2']) ?_; simp [-cB, Tryz.f27, h1, h1', h2, h2']
  have h2 := Decidable.not_not.1 h2
  by_cases h3 : ¬ w.Next.length = w.Parent.length
  · have h3' : ¬ ((w.Next.length : Int) = w.Parent.length) := by omega
    refine Pure.run Tryz.func27 rfl (by simp [Tryz.f27, h1, h1', h2, h3, h3']) ?_; simp [-cB, Tryz.f27, h1, h1', h2, h3, h3']
  have h3 := Decidable.not_not.1 h3
  have q1 := elem_atI w.Parent 0 (by omega) (by simp; omega)
  have q2 := elem_atI w.Child 0 (by omega) (by simp; omega)
  have q3 := elem_atI w.Next 0 (by omega) (by simp; omega)
  have hpos : 0 < w.Parent.length := by omega
  simp at q1 q2 q3
  by_cases z1 : ¬ atI w.Parent 0 = 0
  · refine Pure.run Tryz.func27 rfl (by simp [Tryz.f27, h1, h1', h2, h3, g1, g2, g3, q1, q2, q3, hpos, z1]) ?_; simp [-cB, Tryz.f27, h1, h1', h2, h3, g1, g2, g3, q1, q2, q3, hpos, z1]
  have z1 := Decidable.not_not.1 z1
  by_cases z2 : ¬ atI w.Child 0 = 0
  · refine Pure.run Tryz.func27 rfl (by simp [Tryz.f27, h1, h1', h2, h3, g1, g2, g3, q1, q2, q3, hpos, z1, z2]) ?_; simp [-cB, Tryz.f27, h1, h1', h2, h3, g1, g2, g3, q1, q2, q3, hpos, z1, z2]
  have z2 := Decidable.not_not.1 z2
  by_cases z3 : ¬ atI w.Next 0 = 0
  · have z3' : (atI w.Next 0 != 0) = true := by simpa using z3
    refine Pure.run Tryz.func27 rfl (by simp [Tryz.f27, h1, h1', h2, h3, g1, g2, g3, q1, q2, q3, hpos, z1, z2, z3, z3']) ?_; simp [-cB, Tryz.f27, h1, h1', h2, h3, g1, g2, g3, q1, q2, q3, hpos, z1, z2, z3, z3']
  have z3 := Decidable.not_not.1 z3
  simp only [h1, h2, h3, z1, z2, z3, ne_eq, not_false_eq_true, decide_true, Bool.true_and]
  generalize hres : ((List.range (w.Parent.length - 1)).all fun k => nodeB w.tree ((k : Int) + 1)) = res
  refine Pure.run Tryz.func27 rfl (by simp [Tryz.f27, h1, h1', h2, h3, g1, g2, g3, q1, q2, q3, hpos, z1, z2, z3]) ?_; simp [-cB, Tryz.f27, h1, h1', h2, h3, g1, g2, g3, q1, q2, q3, hpos, z1, z2, z3]
  intro bs
  refine AWP.loopS [1, 3, 4] (w.Parent.length - 1) (fun i => [(4, .d (.v (.int .i64 (i + 1))))]) (fun _ => []) (fun i => ∀ k < i, nodeB w.tree (k + 1) = true) (by rfl) (by simp) ?_
  intro i hi hH
  rcases Nat.lt_or_eq_of_le hi with hlt | hie
  · have a4 : inR .i64 ((i : Int) + 1 + 1) := by rw [inR_i64]; omega
    have hx : 1 ≤ (i : Int) + 1 ∧ (i : Int) + 1 < w.Parent.length := by omega
    have hlt' : (i : Int) + 1 < w.Parent.length := by omega
    have gx1 := getD_atI w.Parent ((i : Int) + 1) (by omega)
    have gx3 := getD_atI w.Next ((i : Int) + 1) (by omega)
    have ex1 := elem_atI w.Parent ((i : Int) + 1) (by omega) (by omega)
    have ex3 := elem_atI w.Next ((i : Int) + 1) (by omega) (by omega)
    have hto : ((i : Int) + 1).toNat = i + 1 := by omega
    simp only [hto] at gx1 gx3 ex1 ex3
    have hnode : nodeB w.tree ((i : Int) + 1) = false → res = false := fun h => by
      rw [← hres, List.all_eq_false]
      exact ⟨i, List.mem_range.2 hlt, by simp [h]⟩
    have hgo : nodeB w.tree ((i : Int) + 1) = true → ∀ k < i + 1, nodeB w.tree ((k : Int) + 1) = true := fun h k hk => by
      rcases Nat.lt_or_ge k i with h2 | h2
      · exact hH k h2
      · rw [show k = i by omega]; exact h
    have hN : nodeB w.tree ((i : Int) + 1) = (!(decide (atI w.Parent ((i : Int) + 1) ≠ 0) && !isT w.Parent.length (atI w.Parent ((i : Int) + 1))) && !(decide (atI w.Parent ((i : Int) + 1) = 0) && decide (atI w.Next ((i : Int) + 1) ≠ 0)) && listedB w.tree ((i : Int) + 1) &&
      !(decide (atI w.Parent ((i : Int) + 1) ≠ 0) && decide ((kidsM w.tree (atI w.Parent ((i : Int) + 1))).count ((i : Int) + 1) ≠ 1)) && !(isT w.Parent.length (atI w.Parent ((i : Int) + 1)) && decide (((i : Int) + 1) ∈ upsM w.tree (atI w.Parent ((i : Int) + 1))))) := rfl
    have hcl := refListed_ok w hw h2 h3 ((i : Int) + 1) hx
    have hck := fun p => refChildren_ok w hw p
    have hkl := fun p => kidsM_len w.tree p
    rw [e1] at hkl
    have hcc := fun p => refCount_ok (kidsM w.tree p) (by have := hkl p; omega) ((i : Int) + 1)
    have hci := fun p => refIsW_ok w p
    have hcw := fun p => refwithin_ok w hw p ((i : Int) + 1)
    simp [-cB, hlt', gx1, gx3, ex1, ex3, h2, h3]
    generalize atI w.Parent ((i : Int) + 1) = p at *
    generalize atI w.Next ((i : Int) + 1) = nx at *
    have hck' := hck p
    have hcc' := hcc p
    have hci' := hci p
    have hcw' := hcw p
    generalize listedB w.tree ((i : Int) + 1) = lb at *
    generalize kidsM w.tree p = kd at *
    generalize isT w.Parent.length p = ip at *
    generalize decide (((i : Int) + 1) ∈ upsM w.tree p) = up at *
    generalize nodeB w.tree ((i : Int) + 1) = nb at *
    clear hres hck hkl hcc hci hcw h1' g1 g2 g3 q1 q2 q3 z1 z2 z3
    by_cases hp0 : p = 0 <;> by_cases hnx : nx = 0
    all_goals refine ⟨by omega, ?_⟩
    all_goals try simp [-cB, hp0, hnx]
    all_goals try rw [hp0] at hci'
    all_goals try rw [hp0] at hcw'
    all_goals try rw [hp0] at hck'
    all_goals try rw [hp0] at gx1 ex1
    all_goals try rw [hnx] at gx3 ex3
    · skip
      repeat' (first
        | (with_reducible refine And.intro ?_ ?_)
        | (refine condC_split (fun h => ?_) (fun h => ?_) <;> (try simp at h) <;> (try simp [-cB, h, hp0, hnx, a4, hlt, gx1, gx3, ex1, ex3, h2, h3]))
        | (refine AOps.pureC rfl (hci') rfl rfl (by simp) rfl ?_ <;> (try simp [-cB, hp0, hnx, a4, hlt, gx1, gx3, ex1, ex3, h2, h3]))
        | (refine AOps.pureC rfl (hcl) rfl rfl (by simp) rfl ?_ <;> (try simp [-cB, hp0, hnx, a4, hlt, gx1, gx3, ex1, ex3, h2, h3]))
        | (refine AOps.pureC rfl (hck') rfl rfl (by simp) rfl ?_ <;> (try simp [-cB, hp0, hnx, a4, hlt, gx1, gx3, ex1, ex3, h2, h3]))
        | (refine AOps.pureC rfl (hcc') rfl rfl (by simp) rfl ?_ <;> (try simp [-cB, hp0, hnx, a4, hlt, gx1, gx3, ex1, ex3, h2, h3]))
        | (refine AOps.pureC rfl (hcw') rfl rfl (by simp) rfl ?_ <;> (try simp [-cB, hp0, hnx, a4, hlt, gx1, gx3, ex1, ex3, h2, h3]))
        | (refine AOps.lendC rfl (hci') rfl (by simp) rfl rfl (by simp) rfl ?_ <;> (try simp [-cB, hp0, hnx, a4, hlt, gx1, gx3, ex1, ex3, h2, h3]))
        | (refine AOps.lendC rfl (hcl) rfl (by simp) rfl rfl (by simp) rfl ?_ <;> (try simp [-cB, hp0, hnx, a4, hlt, gx1, gx3, ex1, ex3, h2, h3]))
        | (refine AOps.lendC rfl (hck') rfl (by simp) rfl rfl (by simp) rfl ?_ <;> (try simp [-cB, hp0, hnx, a4, hlt, gx1, gx3, ex1, ex3, h2, h3]))
        | (refine AOps.lendC rfl (hcc') rfl (by simp) rfl rfl (by simp) rfl ?_ <;> (try simp [-cB, hp0, hnx, a4, hlt, gx1, gx3, ex1, ex3, h2, h3]))
        | (refine AOps.lendC rfl (hcw') rfl (by simp) rfl rfl (by simp) rfl ?_ <;> (try simp [-cB, hp0, hnx, a4, hlt, gx1, gx3, ex1, ex3, h2, h3]))
        | (refine AOps.pureG rfl (fun h => hci') rfl (by first | rfl | (simp; rfl)) (by simp) (by simp) rfl ?_ <;> (try simp [-cB, hp0, hnx, a4, hlt, gx1, gx3, ex1, ex3, h2, h3]))
        | (refine AOps.pureG rfl (fun h => hcl) rfl (by first | rfl | (simp; rfl)) (by simp) (by simp) rfl ?_ <;> (try simp [-cB, hp0, hnx, a4, hlt, gx1, gx3, ex1, ex3, h2, h3]))
        | (refine AOps.pureG rfl (fun h => hck') rfl (by first | rfl | (simp; rfl)) (by simp) (by simp) rfl ?_ <;> (try simp [-cB, hp0, hnx, a4, hlt, gx1, gx3, ex1, ex3, h2, h3]))
        | (refine AOps.pureG rfl (fun h => hcc') rfl (by first | rfl | (simp; rfl)) (by simp) (by simp) rfl ?_ <;> (try simp [-cB, hp0, hnx, a4, hlt, gx1, gx3, ex1, ex3, h2, h3]))
        | (refine AOps.pureG rfl (fun h => hcw') rfl (by first | rfl | (simp; rfl)) (by simp) (by simp) rfl ?_ <;> (try simp [-cB, hp0, hnx, a4, hlt, gx1, gx3, ex1, ex3, h2, h3]))
        | (with_reducible intro _))
      all_goals clear hci' hcl hck' hcc' hcw' gx1 gx3 ex1 ex3
      all_goals first | assumption | omega | (refine hnode ?_; rw [hN]; clear hN hnode hgo hH; cases ip <;> cases lb <;> cases up <;> simp_all <;> omega) | (refine hgo ?_ _ (by assumption); rw [hN]; clear hN hnode hgo hH; cases ip <;> cases lb <;> cases up <;> simp_all <;> omega) | skip
    · skip
      repeat' (first
        | (with_reducible refine And.intro ?_ ?_)
        | (refine condC_split (fun h => ?_) (fun h => ?_) <;> (try simp at h) <;> (try simp [-cB, h, hp0, hnx, a4, hlt, gx1, gx3, ex1, ex3, h2, h3]))
        | (refine AOps.pureC rfl (hci') rfl rfl (by simp) rfl ?_ <;> (try simp [-cB, hp0, hnx, a4, hlt, gx1, gx3, ex1, ex3, h2, h3]))
        | (refine AOps.pureC rfl (hcl) rfl rfl (by simp) rfl ?_ <;> (try simp [-cB, hp0, hnx, a4, hlt, gx1, gx3, ex1, ex3, h2, h3]))
        | (refine AOps.pureC rfl (hck') rfl rfl (by simp) rfl ?_ <;> (try simp [-cB, hp0, hnx, a4, hlt, gx1, gx3, ex1, ex3, h2, h3]))
        | (refine AOps.pureC rfl (hcc') rfl rfl (by simp) rfl ?_ <;> (try simp [-cB, hp0, hnx, a4, hlt, gx1, gx3, ex1, ex3, h2, h3]))
        | (refine AOps.pureC rfl (hcw') rfl rfl (by simp) rfl ?_ <;> (try simp [-cB, hp0, hnx, a4, hlt, gx1, gx3, ex1, ex3, h2, h3]))
        | (refine AOps.lendC rfl (hci') rfl (by simp) rfl rfl (by simp) rfl ?_ <;> (try simp [-cB, hp0, hnx, a4, hlt, gx1, gx3, ex1, ex3, h2, h3]))
        | (refine AOps.lendC rfl (hcl) rfl (by simp) rfl rfl (by simp) rfl ?_ <;> (try simp [-cB, hp0, hnx, a4, hlt, gx1, gx3, ex1, ex3, h2, h3]))
        | (refine AOps.lendC rfl (hck') rfl (by simp) rfl rfl (by simp) rfl ?_ <;> (try simp [-cB, hp0, hnx, a4, hlt, gx1, gx3, ex1, ex3, h2, h3]))
        | (refine AOps.lendC rfl (hcc') rfl (by simp) rfl rfl (by simp) rfl ?_ <;> (try simp [-cB, hp0, hnx, a4, hlt, gx1, gx3, ex1, ex3, h2, h3]))
        | (refine AOps.lendC rfl (hcw') rfl (by simp) rfl rfl (by simp) rfl ?_ <;> (try simp [-cB, hp0, hnx, a4, hlt, gx1, gx3, ex1, ex3, h2, h3]))
        | (refine AOps.pureG rfl (fun h => hci') rfl (by first | rfl | (simp; rfl)) (by simp) (by simp) rfl ?_ <;> (try simp [-cB, hp0, hnx, a4, hlt, gx1, gx3, ex1, ex3, h2, h3]))
        | (refine AOps.pureG rfl (fun h => hcl) rfl (by first | rfl | (simp; rfl)) (by simp) (by simp) rfl ?_ <;> (try simp [-cB, hp0, hnx, a4, hlt, gx1, gx3, ex1, ex3, h2, h3]))
        | (refine AOps.pureG rfl (fun h => hck') rfl (by first | rfl | (simp; rfl)) (by simp) (by simp) rfl ?_ <;> (try simp [-cB, hp0, hnx, a4, hlt, gx1, gx3, ex1, ex3, h2, h3]))
        | (refine AOps.pureG rfl (fun h => hcc') rfl (by first | rfl | (simp; rfl)) (by simp) (by simp) rfl ?_ <;> (try simp [-cB, hp0, hnx, a4, hlt, gx1, gx3, ex1, ex3, h2, h3]))
        | (refine AOps.pureG rfl (fun h => hcw') rfl (by first | rfl | (simp; rfl)) (by simp) (by simp) rfl ?_ <;> (try simp [-cB, hp0, hnx, a4, hlt, gx1, gx3, ex1, ex3, h2, h3]))
        | (with_reducible intro _))
      all_goals clear hci' hcl hck' hcc' hcw' gx1 gx3 ex1 ex3
      all_goals first | assumption | omega | (refine hnode ?_; rw [hN]; clear hN hnode hgo hH; cases ip <;> cases lb <;> cases up <;> simp_all <;> omega) | (refine hgo ?_ _ (by assumption); rw [hN]; clear hN hnode hgo hH; cases ip <;> cases lb <;> cases up <;> simp_all <;> omega) | skip
    · skip
      repeat' (first
        | (with_reducible refine And.intro ?_ ?_)
        | (refine condC_split (fun h => ?_) (fun h => ?_) <;> (try simp at h) <;> (try simp [-cB, h, hp0, hnx, a4, hlt, gx1, gx3, ex1, ex3, h2, h3]))
        | (refine AOps.pureC rfl (hci') rfl rfl (by simp) rfl ?_ <;> (try simp [-cB, hp0, hnx, a4, hlt, gx1, gx3, ex1, ex3, h2, h3]))
        | (refine AOps.pureC rfl (hcl) rfl rfl (by simp) rfl ?_ <;> (try simp [-cB, hp0, hnx, a4, hlt, gx1, gx3, ex1, ex3, h2, h3]))
        | (refine AOps.pureC rfl (hck') rfl rfl (by simp) rfl ?_ <;> (try simp [-cB, hp0, hnx, a4, hlt, gx1, gx3, ex1, ex3, h2, h3]))
        | (refine AOps.pureC rfl (hcc') rfl rfl (by simp) rfl ?_ <;> (try simp [-cB, hp0, hnx, a4, hlt, gx1, gx3, ex1, ex3, h2, h3]))
        | (refine AOps.pureC rfl (hcw') rfl rfl (by simp) rfl ?_ <;> (try simp [-cB, hp0, hnx, a4, hlt, gx1, gx3, ex1, ex3, h2, h3]))
        | (refine AOps.lendC rfl (hci') rfl (by simp) rfl rfl (by simp) rfl ?_ <;> (try simp [-cB, hp0, hnx, a4, hlt, gx1, gx3, ex1, ex3, h2, h3]))
        | (refine AOps.lendC rfl (hcl) rfl (by simp) rfl rfl (by simp) rfl ?_ <;> (try simp [-cB, hp0, hnx, a4, hlt, gx1, gx3, ex1, ex3, h2, h3]))
        | (refine AOps.lendC rfl (hck') rfl (by simp) rfl rfl (by simp) rfl ?_ <;> (try simp [-cB, hp0, hnx, a4, hlt, gx1, gx3, ex1, ex3, h2, h3]))
        | (refine AOps.lendC rfl (hcc') rfl (by simp) rfl rfl (by simp) rfl ?_ <;> (try simp [-cB, hp0, hnx, a4, hlt, gx1, gx3, ex1, ex3, h2, h3]))
        | (refine AOps.lendC rfl (hcw') rfl (by simp) rfl rfl (by simp) rfl ?_ <;> (try simp [-cB, hp0, hnx, a4, hlt, gx1, gx3, ex1, ex3, h2, h3]))
        | (refine AOps.pureG rfl (fun h => hci') rfl (by first | rfl | (simp; rfl)) (by simp) (by simp) rfl ?_ <;> (try simp [-cB, hp0, hnx, a4, hlt, gx1, gx3, ex1, ex3, h2, h3]))
        | (refine AOps.pureG rfl (fun h => hcl) rfl (by first | rfl | (simp; rfl)) (by simp) (by simp) rfl ?_ <;> (try simp [-cB, hp0, hnx, a4, hlt, gx1, gx3, ex1, ex3, h2, h3]))
        | (refine AOps.pureG rfl (fun h => hck') rfl (by first | rfl | (simp; rfl)) (by simp) (by simp) rfl ?_ <;> (try simp [-cB, hp0, hnx, a4, hlt, gx1, gx3, ex1, ex3, h2, h3]))
        | (refine AOps.pureG rfl (fun h => hcc') rfl (by first | rfl | (simp; rfl)) (by simp) (by simp) rfl ?_ <;> (try simp [-cB, hp0, hnx, a4, hlt, gx1, gx3, ex1, ex3, h2, h3]))
        | (refine AOps.pureG rfl (fun h => hcw') rfl (by first | rfl | (simp; rfl)) (by simp) (by simp) rfl ?_ <;> (try simp [-cB, hp0, hnx, a4, hlt, gx1, gx3, ex1, ex3, h2, h3]))
        | (with_reducible intro _))
      all_goals clear hci' hcl hck' hcc' hcw' gx1 gx3 ex1 ex3
      all_goals first | assumption | omega | (refine hnode ?_; rw [hN]; clear hN hnode hgo hH; cases ip <;> cases lb <;> cases up <;> simp_all <;> omega) | (refine hgo ?_ _ (by assumption); rw [hN]; clear hN hnode hgo hH; cases ip <;> cases lb <;> cases up <;> simp_all <;> omega) | skip
    · skip
      repeat' (first
        | (with_reducible refine And.intro ?_ ?_)
        | (refine condC_split (fun h => ?_) (fun h => ?_) <;> (try simp at h) <;> (try simp [-cB, h, hp0, hnx, a4, hlt, gx1, gx3, ex1, ex3, h2, h3]))
        | (refine AOps.pureC rfl (hci') rfl rfl (by simp) rfl ?_ <;> (try simp [-cB, hp0, hnx, a4, hlt, gx1, gx3, ex1, ex3, h2, h3]))
        | (refine AOps.pureC rfl (hcl) rfl rfl (by simp) rfl ?_ <;> (try simp [-cB, hp0, hnx, a4, hlt, gx1, gx3, ex1, ex3, h2, h3]))
        | (refine AOps.pureC rfl (hck') rfl rfl (by simp) rfl ?_ <;> (try simp [-cB, hp0, hnx, a4, hlt, gx1, gx3, ex1, ex3, h2, h3]))
        | (refine AOps.pureC rfl (hcc') rfl rfl (by simp) rfl ?_ <;> (try simp [-cB, hp0, hnx, a4, hlt, gx1, gx3, ex1, ex3, h2, h3]))
        | (refine AOps.pureC rfl (hcw') rfl rfl (by simp) rfl ?_ <;> (try simp [-cB, hp0, hnx, a4, hlt, gx1, gx3, ex1, ex3, h2, h3]))
        | (refine AOps.lendC rfl (hci') rfl (by simp) rfl rfl (by simp) rfl ?_ <;> (try simp [-cB, hp0, hnx, a4, hlt, gx1, gx3, ex1, ex3, h2, h3]))
        | (refine AOps.lendC rfl (hcl) rfl (by simp) rfl rfl (by simp) rfl ?_ <;> (try simp [-cB, hp0, hnx, a4, hlt, gx1, gx3, ex1, ex3, h2, h3]))
        | (refine AOps.lendC rfl (hck') rfl (by simp) rfl rfl (by simp) rfl ?_ <;> (try simp [-cB, hp0, hnx, a4, hlt, gx1, gx3, ex1, ex3, h2, h3]))
        | (refine AOps.lendC rfl (hcc') rfl (by simp) rfl rfl (by simp) rfl ?_ <;> (try simp [-cB, hp0, hnx, a4, hlt, gx1, gx3, ex1, ex3, h2, h3]))
        | (refine AOps.lendC rfl (hcw') rfl (by simp) rfl rfl (by simp) rfl ?_ <;> (try simp [-cB, hp0, hnx, a4, hlt, gx1, gx3, ex1, ex3, h2, h3]))
        | (refine AOps.pureG rfl (fun h => hci') rfl (by first | rfl | (simp; rfl)) (by simp) (by simp) rfl ?_ <;> (try simp [-cB, hp0, hnx, a4, hlt, gx1, gx3, ex1, ex3, h2, h3]))
        | (refine AOps.pureG rfl (fun h => hcl) rfl (by first | rfl | (simp; rfl)) (by simp) (by simp) rfl ?_ <;> (try simp [-cB, hp0, hnx, a4, hlt, gx1, gx3, ex1, ex3, h2, h3]))
        | (refine AOps.pureG rfl (fun h => hck') rfl (by first | rfl | (simp; rfl)) (by simp) (by simp) rfl ?_ <;> (try simp [-cB, hp0, hnx, a4, hlt, gx1, gx3, ex1, ex3, h2, h3]))
        | (refine AOps.pureG rfl (fun h => hcc') rfl (by first | rfl | (simp; rfl)) (by simp) (by simp) rfl ?_ <;> (try simp [-cB, hp0, hnx, a4, hlt, gx1, gx3, ex1, ex3, h2, h3]))
        | (refine AOps.pureG rfl (fun h => hcw') rfl (by first | rfl | (simp; rfl)) (by simp) (by simp) rfl ?_ <;> (try simp [-cB, hp0, hnx, a4, hlt, gx1, gx3, ex1, ex3, h2, h3]))
        | (with_reducible intro _))
      all_goals clear hci' hcl hck' hcc' hcw' gx1 gx3 ex1 ex3
      all_goals first | assumption | omega | (refine hnode ?_; rw [hN]; clear hN hnode hgo hH; cases ip <;> cases lb <;> cases up <;> simp_all <;> omega) | (refine hgo ?_ _ (by assumption); rw [hN]; clear hN hnode hgo hH; cases ip <;> cases lb <;> cases up <;> simp_all <;> omega) | skip
  · subst hie
    have hall : ∀ k, k < w.Parent.length - 1 → nodeB w.tree ((k : Int) + 1) = true := hH
    have hnl : ¬ (((w.Parent.length - 1 : Nat) : Int) + 1 < w.Parent.length) := by omega
    have hr : res = true := by rw [← hres, List.all_eq_true]; exact fun k hk => hall k (List.mem_range.1 hk)
    simp [-cB, hnl, hr]
end Go.Ab

namespace Go.Ab
open Go.Proofs
def prevB : Option GWay → GWay → Bool
  | none, _ => true
  | some p, w => decide (p.Dir < w.Dir)
def roomB (t : GTables) (n : Int) : Bool := (t.Things[n.toNat]?.getD GThing.zero).Room
def wayB (t : GTables) (prev : Option GWay) (w : GWay) : Bool :=
  fromB w.Dir 1 12 && prevB prev w && thingB t w.To && roomB t w.To && routB t w.When true && textB t w.Else true
def waysM (t : GTables) : Option GWay → List GWay → Bool
  | _, [] => true
  | p, w :: l => wayB t p w && waysM t (some w) l
def waysB (t : GTables) (l : List GWay) : Bool := waysM t none l
theorem waysM_app (t : GTables) (l r : List GWay) (p : Option GWay) : waysM t p (l ++ r) = (waysM t p l && waysM t (l.getLast?.or p) r) := by
  induction l generalizing p with
  | nil => simp [waysM]
  | cons w l ih =>
    rw [List.cons_append, waysM, waysM, ih, Bool.and_assoc]
    cases hl : l.getLast? with
    | none => have : l = [] := by simpa using hl
              subst this; simp
    | some q => simp [List.getLast?_cons, hl]
set_option maxRecDepth 20000 in
theorem refWays_ok (t : GTables) (ht : t.wf) (l : List GWay) (hl : l.length ≤ 1000000000000000) (hw : ∀ x ∈ l, x.wf) : Pure Tryz.prog 71 [.agg (t.enc.map .d), .d (.sl (l.map GWay.enc))] (.d (.v (.bool (waysB t l)))) := by
  have hlen : t.Things.length ≤ 2000000000000 := by have := ht; simp [GTables.wf] at this; omega
  unfold waysB
  refine Pure.run Tryz.func71 rfl (by simp [Tryz.f71]) ?_; simp [Tryz.f71]
  try intro (_ : Nat → Nat)
  refine AWP.loopL [1, 2, 5] l (fun pre => [(5, .d (.v (.int .i64 pre.length)))]) (fun _ => []) (fun pre => waysM t none pre = true) (by rfl) (by omega) (by simp [waysM]) ?_ ?_
  · rintro pre x post hsp hH hlt hge a4
    have hall : waysM t none l = (wayB t pre.getLast? x && waysM t (some x) post) := by
      rw [hsp, waysM_app, hH, waysM]; simp
    have hsn : waysM t none (pre ++ [x]) = wayB t pre.getLast? x := by rw [waysM_app, hH, waysM, waysM]; simp
    have hx := hw x (by rw [hsp]; simp)
    have hprev : ∀ i : Nat, i + 1 = pre.length → l[i]? = pre.getLast? := by
      intro i hi
      rw [hsp, List.getElem?_append_left (by omega), List.getLast?_eq_getElem?]
      congr 1; omega
    have hT : thingB t x.To = true → (1 ≤ x.To ∧ x.To.toNat < t.Things.length) := by
      intro h
      unfold thingB at h
      rw [fromB_iff] at h
      omega
    have hw1 : wayB t pre.getLast? x = (fromB x.Dir 1 12 && prevB pre.getLast? x && thingB t x.To && roomB t x.To && routB t x.When true && textB t x.Else true) := rfl
    rw [hw1] at hall hsn
    clear hw hsp
    simp [-cB, *, -hprev, -hT, -hall, -hsn]
    refine AWP.regionD [.d (.v (.bool (fromB x.Dir 1 12))), .d (.v (.bool (thingB t x.To))), .d (.v (.bool (routB t x.When true))), .d (.v (.bool (textB t x.Else true)))] Tryz.mixed (by kernel_rfl) (by rfl) ?_
    simp [-cB, *, -hprev, -hT, (refFrom_ok _ _ _).ok, (refThing_ok t ht _).ok, (refRoutine_ok t ht _ _).ok, (refText_ok t ht _ _).ok]
    have hP : (0 < pre.length → (l[pre.length - 1]?.getD GWay.zero).Dir < x.Dir) ↔ prevB pre.getLast? x = true := by
      cases hg : pre.getLast? with
      | none => have : pre = [] := by simpa using hg
                subst this; simp [prevB]
      | some p =>
        have hne : 0 < pre.length := by
          cases pre with
          | nil => simp at hg
          | cons _ _ => simp
        rw [hprev (pre.length - 1) (by omega), hg]
        simp [hne, prevB]
    have hR : (t.Things[x.To.toNat]?.getD GThing.zero).Room = roomB t x.To := rfl
    have hnl : pre = [] ↔ ¬ 0 < pre.length := by cases pre <;> simp
    rw [hR, hnl]
    generalize fromB x.Dir 1 12 = b1 at *
    generalize thingB t x.To = b2 at *
    generalize routB t x.When true = b3 at *
    generalize textB t x.Else true = b4 at *
    generalize waysM t (some x) post = b5 at *
    generalize roomB t x.To = b6 at *
    generalize prevB pre.getLast? x = b7 at *
    generalize (l[pre.length - 1]?.getD GWay.zero).Dir = d at *
    have hi : 0 < pre.length → inR IntKind.i64 ((pre.length : Int) - 1) := fun h => by rw [inR_i64]; omega
    rcases Nat.eq_zero_or_pos pre.length with hz | hz
    · have hb7 : b7 = true := hP.1 (fun h => by omega)
      clear hP hprev hnl
      cases b1 <;> simp [hz, hsn, hall, hb7, a4]
      cases b2 <;> simp
      obtain ⟨k1, k2⟩ := hT rfl
      cases b6 <;> simp [k2, show 0 ≤ x.To by omega]
      cases b3 <;> simp
      cases b4 <;> simp [a4, hsn, hall, hb7]
      rw [inR_i64]; omega
    · have hP' : d < x.Dir ↔ b7 = true := ⟨fun h => hP.1 (fun _ => h), fun h => hP.2 h hz⟩
      have hi' := hi hz
      clear hP hprev hnl hi
      have hle : 1 ≤ (pre.length : Int) ∧ pre.length - 1 < l.length := by omega
      cases b1 <;> simp [hz, hsn, hall, a4, hi', hle, hP']
      cases b7 <;> simp
      cases b2 <;> simp
      obtain ⟨k1, k2⟩ := hT rfl
      cases b6 <;> simp [k2, show 0 ≤ x.To by omega]
      cases b3 <;> simp
      cases b4 <;> simp [a4, hsn, hall]
      intro h
      have := hP'.2 rfl
      omega
  · intro hH
    simp [*]
def thingAt (t : GTables) (n : Int) : GThing := t.Things[n.toNat]?.getD GThing.zero
def parentsB (t : GTables) : Prop := ∀ x ∈ t.Things, 0 ≤ x.Parent ∧ x.Parent < t.Things.length
def endsM (t : GTables) : Nat → Int → Bool
  | 0, _ => false
  | k + 1, x => if x = 0 then true else endsM t k (thingAt t x).Parent
def endsB (t : GTables) (x : Int) : Bool := endsM t t.Things.length x
theorem thingAt_get {t : GTables} {n : Int} (h : 0 ≤ n ∧ n < t.Things.length) : t.Things[n.toNat]? = some (thingAt t n) := by
  unfold thingAt
  rw [List.getElem?_eq_getElem (by omega)]; simp
theorem thingAt_elem {t : GTables} {n : Int} (h : 0 ≤ n ∧ n < t.Things.length) : t.Things[n.toNat]'(by omega) = thingAt t n := by
  have := thingAt_get h
  rwa [List.getElem?_eq_getElem (by omega), Option.some.injEq] at this
theorem thingAt_mem {t : GTables} {n : Int} (h : 0 ≤ n ∧ n < t.Things.length) : thingAt t n ∈ t.Things := List.mem_of_getElem? (thingAt_get h)
def upN (t : GTables) : Nat → Int → Int
  | 0, x => x
  | k + 1, x => upN t k (thingAt t x).Parent
theorem upN_succ (t : GTables) (k : Nat) (x : Int) : upN t (k + 1) x = (thingAt t (upN t k x)).Parent := by
  induction k generalizing x with
  | zero => rfl
  | succ k ih => rw [upN, ih]; rfl
theorem upN_in {t : GTables} (hp : parentsB t) (k : Nat) (x : Int) (hx : 0 ≤ x ∧ x < t.Things.length) : 0 ≤ upN t k x ∧ upN t k x < t.Things.length := by
  induction k generalizing x with
  | zero => exact hx
  | succ k ih => exact ih _ (hp _ (thingAt_mem hx))
theorem endsM_up (t : GTables) : ∀ (i k : Nat) (x : Int), (∀ j < i, upN t j x ≠ 0) → endsM t (i + k) x = endsM t k (upN t i x)
  | 0, k, x, _ => by rw [Nat.zero_add]; rfl
  | i + 1, k, x, h => by
    rw [show i + 1 + k = (i + k) + 1 by omega, endsM, if_neg (show x ≠ 0 from h 0 (by omega)), upN, ← endsM_up t i k]
    exact fun j hj => h (j + 1) (by omega)
theorem refEnds_ok (t : GTables) (ht : t.wf) (hp : parentsB t) (x : Int) (hx : 0 ≤ x ∧ x < t.Things.length) : Pure Tryz.prog 72 [.agg (t.enc.map .d), .d (.v (.int .i64 x))] (.d (.v (.bool (endsB t x)))) := by
  have hlen : t.Things.length ≤ 2000000000000 := by have := ht; simp [GTables.wf] at this; omega
  refine Pure.run Tryz.func72 rfl (by simp [Tryz.f72]) ?_; simp [Tryz.f72]
  try intro (_ : Nat → Nat)
  refine AWP.loopS [1, 2, 5] t.Things.length (fun i => [(1, .d (.v (.int .i64 (upN t i x)))), (5, .d (.v (.int .i64 i)))]) (fun _ => []) (fun i => ∀ j < i, upN t j x ≠ 0) (by rfl) (by simp [upN]) ?_
  intro i hi hH
  have hu := upN_in hp i x hx
  have hs := upN_succ t i x
  have he := endsM_up t i (t.Things.length - i) x hH
  rw [show i + (t.Things.length - i) = t.Things.length by omega] at he
  have hget := thingAt_elem hu
  have hs' := hs.symm
  rcases Nat.lt_or_eq_of_le hi with hlt | rfl
  · have a4 : inR .i64 ((i : Int) + 1) := by rw [inR_i64]; omega
    unfold endsB
    rw [show t.Things.length - i = (t.Things.length - (i + 1)) + 1 by omega, endsM, ← hs] at he
    clear hs
    simp [-cB, *]
    repeat' (first
      | (with_reducible refine And.intro ?_ ?_)
      | (refine condC_split (fun h => ?_) (fun h => ?_) <;> (try simp at h) <;> (try simp [-cB, *]))
      | (refine AOps.pureC rfl (refRow_ok _) rfl rfl (by simp) rfl ?_ <;> (try simp [-cB, *]))
      | (refine AOps.lendC rfl (refRow_ok _) rfl (by simp) rfl rfl (by simp) rfl ?_ <;> (try simp [-cB, *]))
      | (refine AOps.pureG rfl (fun h => refRow_ok _) rfl (by first | rfl | (simp; rfl)) (by simp) (by simp) rfl ?_ <;> (try simp [-cB, *]))
      | (with_reducible intro _))
    all_goals (first | assumption | omega | (rw [inR_i64]; omega) | (simp_all; done) | grind | skip)
  · rw [Nat.sub_self] at he
    unfold endsB
    simp [he, endsM]
def roomM (t : GTables) : Nat → Int → Bool
  | 0, _ => false
  | k + 1, x => if thingB t x then (if roomB t x then true else roomM t k (thingAt t x).Parent) else false
def inRoomB (t : GTables) (x : Int) : Bool := roomM t t.Things.length x
theorem roomM_up (t : GTables) : ∀ (i k : Nat) (x : Int), (∀ j < i, thingB t (upN t j x) = true ∧ roomB t (upN t j x) = false) → roomM t (i + k) x = roomM t k (upN t i x)
  | 0, k, x, _ => by rw [Nat.zero_add]; rfl
  | i + 1, k, x, h => by
    have h0 : thingB t x = true ∧ roomB t x = false := h 0 (by omega)
    rw [show i + 1 + k = (i + k) + 1 by omega, roomM, if_pos h0.1, h0.2, if_neg (by simp), upN, ← roomM_up t i k]
    exact fun j hj => h (j + 1) (by omega)
theorem refRoom_ok (t : GTables) (ht : t.wf) (x : Int) : Pure Tryz.prog 73 [.agg (t.enc.map .d), .d (.v (.int .i64 x))] (.d (.v (.bool (inRoomB t x)))) := by
  have hlen : t.Things.length ≤ 2000000000000 := by have := ht; simp [GTables.wf] at this; omega
  refine Pure.run Tryz.func73 rfl (by simp [Tryz.f73]) ?_; simp [Tryz.f73]
  try intro (_ : Nat → Nat)
  refine AWP.loopS [1, 2, 5] t.Things.length (fun i => [(1, .d (.v (.int .i64 (upN t i x)))), (5, .d (.v (.int .i64 i)))]) (fun _ => []) (fun i => ∀ j < i, thingB t (upN t j x) = true ∧ roomB t (upN t j x) = false) (by rfl) (by simp [upN]) ?_
  intro i hi hH
  have hs' := (upN_succ t i x).symm
  have he := roomM_up t i (t.Things.length - i) x hH
  rw [show i + (t.Things.length - i) = t.Things.length by omega] at he
  unfold inRoomB
  have hT : thingB t (upN t i x) = true → 0 ≤ upN t i x ∧ upN t i x < t.Things.length := by
    unfold thingB; rw [fromB_iff]; omega
  have hR : (thingAt t (upN t i x)).Room = roomB t (upN t i x) := rfl
  rcases Nat.lt_or_eq_of_le hi with hlt | rfl
  · have a4 : inR .i64 ((i : Int) + 1) := by rw [inR_i64]; omega
    rw [show t.Things.length - i = (t.Things.length - (i + 1)) + 1 by omega, roomM, hs'] at he
    simp [-cB, *, -hT]
    refine AOps.pureG rfl (fun h => refThing_ok t ht _) rfl (by first | rfl | (simp; rfl)) (by simp) (by simp) rfl ?_
    generalize hb : thingB t (upN t i x) = b at *
    cases b with
    | false =>
      simp [-cB, he]
    | true =>
      have hu := hT rfl
      have hget := thingAt_elem hu
      simp [-cB, *]
      repeat' (first
        | (with_reducible refine And.intro ?_ ?_)
        | (refine condC_split (fun h => ?_) (fun h => ?_) <;> (try simp at h) <;> (try simp [-cB, *]))
        | (refine AOps.pureC rfl (refRow_ok _) rfl rfl (by simp) rfl ?_ <;> (try simp [-cB, *]))
        | (refine AOps.lendC rfl (refRow_ok _) rfl (by simp) rfl rfl (by simp) rfl ?_ <;> (try simp [-cB, *]))
        | (refine AOps.pureG rfl (fun h => refRow_ok _) rfl (by first | rfl | (simp; rfl)) (by simp) (by simp) rfl ?_ <;> (try simp [-cB, *]))
        | (with_reducible intro _))
      all_goals (first | assumption | omega | (rw [inR_i64]; omega) | (simp_all; done) | grind | skip)
  · rw [Nat.sub_self] at he
    simp [-cB, he, roomM]
    refine AOps.pureG rfl (fun h => refThing_ok t ht _) rfl (by first | rfl | (simp; rfl)) (by simp) (by simp) rfl ?_
    simp
end Go.Ab

namespace Go.Ab
open Go.Proofs
def thingOk (t : GTables) (x : GThing) : Bool :=
  textB t x.Title false && textB t x.Text true && fromB x.Flags 0 (bitsM t.Flags - 1) && decide (x.Props.length = t.Props.length) && allB int16 x.Props && wordsB x.Words 8 && wordsB x.Adjs 8 &&
  (decide (x.Parent = 0) || thingB t x.Parent) && (!x.Room || decide (x.Parent = 0)) && (x.Room || decide (x.Ways.length = 0)) && waysB t x.Ways
def thingsB (t : GTables) : Bool :=
  fromB t.Things.length 3 128 && nothingB t (thingAt t 0) && !(thingAt t 1).Room && allB (thingOk t) (t.Things.drop 1) && allB (fun (i : Nat) => endsB t ((i : Int) + 1)) (List.range (t.Things.length - 1)) && inRoomB t 1
theorem bitsM_le (n : Int) : 1 ≤ bitsM n ∧ bitsM n ≤ 65536 := by
  unfold bitsM
  generalize hm : min n.toNat 16 = i
  have h16 : i ≤ 16 := by omega
  have e : (2 : Int) ^ i = ((2 ^ i : Nat) : Int) := by simp
  have := Nat.pow_le_pow_right (n := 2) (by decide) h16
  have := Nat.pow_pos (a := 2) (n := i) (by decide)
  rw [e]; omega
set_option maxRecDepth 20000 in
theorem refThings_ok (t : GTables) (ht : t.wf) : Pure Tryz.prog 25 [.agg (t.enc.map .d)] (.d (.v (.bool (thingsB t)))) := by
  have hlen : t.Things.length ≤ 2000000000000 := by have := ht; simp [GTables.wf] at this; omega
  have hwf := GTables.wf_Things ht
  unfold thingsB
  refine Pure.run Tryz.func25 rfl (by simp [Tryz.f25]) ?_; simp [Tryz.f25]
  try intro (_ : Nat → Nat)
  refine AWP.regionD [.d (.v (.bool (fromB t.Things.length 3 128))), .d (.v (.bool (nothingB t (thingAt t 0))))] Tryz.mixed (by kernel_rfl) (by rfl) ?_
  have h0 : thingAt t 0 = t.Things[0]?.getD GThing.zero := rfl
  have hz : (thingAt t 0).wf := by
    rw [h0]
    cases h : t.Things[0]? with
    | none => simp [GThing.wf, GThing.zero, inR_i64]
    | some x => exact hwf x (List.mem_of_getElem? h)
  simp [-cB, (refFrom_ok _ _ _).ok, ← h0, (refNothing_ok t ht _ hz).ok]
  have hN : fromB t.Things.length 3 128 = true → 3 ≤ t.Things.length ∧ t.Things.length ≤ 128 := by rw [fromB_iff]; omega
  generalize fromB t.Things.length 3 128 = p1 at *
  cases p1 <;> simp [-cB, hN]
  obtain ⟨hN1, hN2⟩ := hN rfl
  clear hN
  have hR1 : nothingB t (thingAt t 0) = true → (thingAt t 0).Parent = 0 := by
    intro h; simp [nothingB] at h; exact h.1.1.1.1.1.2
  generalize nothingB t (thingAt t 0) = p2 at *
  cases p2 <;> simp [-cB, show 0 < t.Things.length by omega, show 1 < t.Things.length by omega]
  have h1 : thingAt t 1 = t.Things[1]?.getD GThing.zero := rfl
  have h1' : t.Things[1]'(by omega) = thingAt t 1 := by rw [h1, List.getElem?_eq_getElem (by omega)]; simp
  rw [h1']
  generalize (thingAt t 1).Room = p3 at *
  cases p3 <;> simp [-cB]
  generalize hl : t.Things.tail = l at *
  have hll : l.length + 1 = t.Things.length := by rw [← hl]; simp; omega
  have hlg : ∀ (k : Nat) (h : k < l.length), t.Things[k + 1]'(by omega) = l[k] := by intro k h; subst hl; simp
  refine AWP.loopL [1, 3] l (fun pre => [(3, .d (.v (.int .i64 ((pre.length : Int) + 1))))]) (fun _ => []) (fun pre => allB (thingOk t) pre = true) (by rfl) (by omega) (by simp [allB_nil]) ?_ ?_
  · rintro pre x post hsp hH hlt hge a4
    have hall := allB_split hsp hH
    have hsn : allB (thingOk t) (pre ++ [x]) = thingOk t x := by simp [allB_snoc, hH]
    have hge' := hlg _ hlt
    rw [hge] at hge'
    have hxw : x.wf := hwf x (by rw [← hge']; exact List.getElem_mem _)
    have c1 : (pre.length : Int) + 1 < t.Things.length := by omega
    have c2 : pre.length + 1 < t.Things.length := by omega
    have hbl := bitsM_le t.Flags
    have hok : thingOk t x = (textB t x.Title false && textB t x.Text true && fromB x.Flags 0 (bitsM t.Flags - 1) && decide (x.Props.length = t.Props.length) && allB int16 x.Props && wordsB x.Words 8 && wordsB x.Adjs 8 &&
      (decide (x.Parent = 0) || thingB t x.Parent) && (!x.Room || decide (x.Parent = 0)) && (x.Room || decide (x.Ways.length = 0)) && waysB t x.Ways) := rfl
    clear hwf hsp hlg hge hN1 hN2 h0 h1 h1' hz
    have c0 : 0 ≤ (pre.length : Int) + 1 := by omega
    simp [-cB, c0, c1, c2, hge', hall]
    try intro (_ : Nat → Nat)
    refine AWP.regionD [.d (.v (.bool (textB t x.Title false))), .d (.v (.bool (textB t x.Text true))), .d (.v (.int .i64 (bitsM t.Flags))), .d (.v (.bool (fromB x.Flags 0 (bitsM t.Flags - 1)))), .d (.v (.bool (allB int16 x.Props))), .d (.v (.bool (wordsB x.Words 8))), .d (.v (.bool (wordsB x.Adjs 8)))] Tryz.mixed (by kernel_rfl) (by rfl) ?_
    simp [-cB, (refText_ok t ht _ _).ok, (refBits_ok _).ok, (refFrom_ok _ _ _).ok, (refValues_ok x.Props (by have := GThing.wl_Props hxw; omega)).ok, (refWords_ok x.Words (by have := GThing.wl_Words hxw; omega) (fun y hy => by have := GThing.wf_Words hxw y hy; omega) _).ok, (refWords_ok x.Adjs (by have := GThing.wl_Adjs hxw; omega) (fun y hy => by have := GThing.wf_Adjs hxw y hy; omega) _).ok]
    refine ⟨fun h h' => ⟨by rw [inR_i64]; omega, h, h'⟩, ?_⟩
    refine condC_split (fun h => ?_) (fun h => ?_)
    · simp [-cB]
      simp at h
      all_goals (first | assumption | omega | (rw [inR_i64]; omega) | (simp_all; done) | grind | skip)
    · simp [-cB]
      simp at h
      repeat' (first
        | (with_reducible refine And.intro ?_ ?_)
        | (refine condC_split (fun h => ?_) (fun h => ?_) <;> (try simp at h) <;> (try simp [-cB, *]))
        | (refine AOps.pureC rfl (refThing_ok t ht _) rfl rfl (by simp) rfl ?_ <;> (try simp [-cB, *]))
        | (refine AOps.pureC rfl (refWays_ok t ht x.Ways (by have := GThing.wl_Ways hxw; omega) (GThing.wf_Ways hxw)) rfl rfl (by simp) rfl ?_ <;> (try simp [-cB, *]))
        | (refine AOps.lendC rfl (refThing_ok t ht _) rfl (by simp) rfl rfl (by simp) rfl ?_ <;> (try simp [-cB, *]))
        | (refine AOps.lendC rfl (refWays_ok t ht x.Ways (by have := GThing.wl_Ways hxw; omega) (GThing.wf_Ways hxw)) rfl (by simp) rfl rfl (by simp) rfl ?_ <;> (try simp [-cB, *]))
        | (refine AOps.pureG rfl (fun h => refThing_ok t ht _) rfl (by first | rfl | (simp; rfl)) (by simp) (by simp) rfl ?_ <;> (try simp [-cB, *]))
        | (refine AOps.pureG rfl (fun h => refWays_ok t ht x.Ways (by have := GThing.wl_Ways hxw; omega) (GThing.wf_Ways hxw)) rfl (by first | rfl | (simp; rfl)) (by simp) (by simp) rfl ?_ <;> (try simp [-cB, *]))
        | (with_reducible intro _))
      all_goals (first | assumption | omega | (rw [inR_i64]; omega) | (simp_all; done) | grind | skip)
  · intro hH
    have hpar : parentsB t := by
      intro x hx
      obtain ⟨k, hk, rfl⟩ := List.getElem_of_mem hx
      cases k with
      | zero =>
        have := hR1 rfl
        rw [h0, List.getElem?_eq_getElem hk] at this
        simp only [Option.getD_some] at this
        rw [this]; omega
      | succ k =>
        rw [hlg k (by omega)]
        have := allB_iff.1 hH l[k] (List.getElem_mem _)
        simp [thingOk, thingB, fromB] at this
        omega
    clear hwf h0 hz hR1 h1 h1' hlg
    have c9 : ¬ ((l.length : Int) + 1 < t.Things.length) := by omega
    simp [-cB, c9, hH]
    refine AWP.loopL [1, 5] (List.range (t.Things.length - 1)) (fun pre => [(5, .d (.v (.int .i64 ((pre.length : Int) + 1))))]) (fun _ => []) (fun pre => allB (fun (i : Nat) => endsB t ((i : Int) + 1)) pre = true) (by rfl) (by simp; omega) (by simp [allB_nil]) ?_ ?_
    · rintro pre x post hsp hH2 hlt hge a4
      have hall := allB_split hsp hH2
      have hx : pre.length = x := by simpa using hge
      have hsn : allB (fun (i : Nat) => endsB t ((i : Int) + 1)) (pre ++ [x]) = endsB t ((x : Int) + 1) := by simp [allB_snoc, hH2]
      simp at hlt
      subst hx
      have c1 : (pre.length : Int) + 1 < t.Things.length := by omega
      have hE := refEnds_ok t ht hpar ((pre.length : Int) + 1) (by omega)
      clear hsp hge
      simp [-cB, c1, hall]
      repeat' (first
        | (with_reducible refine And.intro ?_ ?_)
        | (refine condC_split (fun h => ?_) (fun h => ?_) <;> (try simp at h) <;> (try simp [-cB, *]))
        | (refine AOps.pureC rfl (hE) rfl rfl (by simp) rfl ?_ <;> (try simp [-cB, *]))
        | (refine AOps.lendC rfl (hE) rfl (by simp) rfl rfl (by simp) rfl ?_ <;> (try simp [-cB, *]))
        | (refine AOps.pureG rfl (fun h => hE) rfl (by first | rfl | (simp; rfl)) (by simp) (by simp) rfl ?_ <;> (try simp [-cB, *]))
        | (with_reducible intro _))
      all_goals (first | assumption | omega | (rw [inR_i64]; omega) | (simp_all; done) | grind | skip)
    · intro hH2
      have c1 : ¬ (((t.Things.length - 1 : Nat) : Int) + 1 < t.Things.length) := by omega
      simp [-cB, c1, hH2]
      repeat' (first
        | (with_reducible refine And.intro ?_ ?_)
        | (refine condC_split (fun h => ?_) (fun h => ?_) <;> (try simp at h) <;> (try simp [-cB, *]))
        | (refine AOps.pureC rfl (refRoom_ok t ht 1) rfl rfl (by simp) rfl ?_ <;> (try simp [-cB, *]))
        | (refine AOps.lendC rfl (refRoom_ok t ht 1) rfl (by simp) rfl rfl (by simp) rfl ?_ <;> (try simp [-cB, *]))
        | (refine AOps.pureG rfl (fun h => refRoom_ok t ht 1) rfl (by first | rfl | (simp; rfl)) (by simp) (by simp) rfl ?_ <;> (try simp [-cB, *]))
        | (with_reducible intro _))
end Go.Ab

namespace Go.Ab
open Go.Proofs
def paramB (t : GTables) (i : Nat) : Bool := fromB (t.Params[i]?.getD 0) 0 8 && fromB (t.Locals[i]?.getD 0) (t.Params[i]?.getD 0) 24
def headB (t : GTables) : Bool :=
  decide (t.Texts.length ≤ 4096) && textB t t.Title false && textB t t.By false && fromB t.Release 0 32767 && fromB t.Max 0 32767 && fromB t.Flags 4 16 &&
  (decide (t.Props.length ≤ 16) && decide (t.Globals.length ≤ 64) && allB int16 t.Props && allB int16 t.Globals && decide (t.Params.length = t.Locals.length) && decide (t.Params.length ≤ 2048)) &&
  allB isTextB t.Texts && allB (paramB t) (List.range t.Params.length)
set_option maxRecDepth 20000 in
theorem refHead_ok (t : GTables) (ht : t.wf) : Pure Tryz.prog 24 [.agg (t.enc.map .d)] (.d (.v (.bool (headB t)))) := by
  have hx1 := GTables.wl_Texts ht
  have hx2 := GTables.wl_Props ht
  have hx3 := GTables.wl_Globals ht
  have hx4 := GTables.wl_Params ht
  have hx5 := GTables.wl_Locals ht
  have hx6 := GTables.wf_Texts ht
  unfold headB
  refine Pure.run Tryz.func24 rfl (by simp [Tryz.f24]) ?_; simp [-cB, Tryz.f24]
  repeat' (first
    | (with_reducible refine And.intro ?_ ?_)
    | (refine condC_split (fun h => ?_) (fun h => ?_) <;> (try simp at h) <;> (try simp [-cB, *]))
    | (refine AOps.pureC rfl (refText_ok t ht _ _) rfl rfl (by simp) rfl ?_ <;> (try simp [-cB, *]))
    | (refine AOps.pureC rfl (refFrom_ok _ _ _) rfl rfl (by simp) rfl ?_ <;> (try simp [-cB, *]))
    | (refine AOps.pureC rfl (refValues_ok t.Props (by omega)) rfl rfl (by simp) rfl ?_ <;> (try simp [-cB, *]))
    | (refine AOps.pureC rfl (refValues_ok t.Globals (by omega)) rfl rfl (by simp) rfl ?_ <;> (try simp [-cB, *]))
    | (refine AOps.lendC rfl (refText_ok t ht _ _) rfl (by simp) rfl rfl (by simp) rfl ?_ <;> (try simp [-cB, *]))
    | (refine AOps.lendC rfl (refFrom_ok _ _ _) rfl (by simp) rfl rfl (by simp) rfl ?_ <;> (try simp [-cB, *]))
    | (refine AOps.lendC rfl (refValues_ok t.Props (by omega)) rfl (by simp) rfl rfl (by simp) rfl ?_ <;> (try simp [-cB, *]))
    | (refine AOps.lendC rfl (refValues_ok t.Globals (by omega)) rfl (by simp) rfl rfl (by simp) rfl ?_ <;> (try simp [-cB, *]))
    | (refine AOps.pureG rfl (fun h => refText_ok t ht _ _) rfl (by first | rfl | (simp; rfl)) (by simp) (by simp) rfl ?_ <;> (try simp [-cB, *]))
    | (refine AOps.pureG rfl (fun h => refFrom_ok _ _ _) rfl (by first | rfl | (simp; rfl)) (by simp) (by simp) rfl ?_ <;> (try simp [-cB, *]))
    | (refine AOps.pureG rfl (fun h => refValues_ok t.Props (by omega)) rfl (by first | rfl | (simp; rfl)) (by simp) (by simp) rfl ?_ <;> (try simp [-cB, *]))
    | (refine AOps.pureG rfl (fun h => refValues_ok t.Globals (by omega)) rfl (by first | rfl | (simp; rfl)) (by simp) (by simp) rfl ?_ <;> (try simp [-cB, *]))
    | (with_reducible intro _))
  all_goals (first | assumption | omega | (rw [inR_i64]; omega) | (simp_all; done) | grind | skip)
  have e1 : t.Texts.length ≤ 4096 := by omega
  have e2 : t.Props.length ≤ 16 := by omega
  have e3 : t.Globals.length ≤ 64 := by omega
  have e4 : t.Params.length = t.Locals.length := by omega
  have e5 : t.Params.length ≤ 2048 := by omega
  refine AWP.loopL [1, 3] t.Texts (fun pre => [(3, .d (.v (.int .i64 pre.length)))]) (fun _ => []) (fun pre => allB isTextB pre = true) (by rfl) (by omega) (by simp [allB_nil]) ?_ ?_
  · rintro pre x post hsp hH hlt hge a4
    have hall := allB_split hsp hH
    have hsn : allB isTextB (pre ++ [x]) = isTextB x := by simp [allB_snoc, hH]
    have hT := refIsText_ok x (by have := hx6 x (by rw [hsp]; simp); omega)
    clear hsp hx6
    simp [-cB, hlt, hge, hall, a4]
    repeat' (first
      | (with_reducible refine And.intro ?_ ?_)
      | (refine condC_split (fun h => ?_) (fun h => ?_) <;> (try simp at h) <;> (try simp [-cB, *]))
      | (refine AOps.pureC rfl (hT) rfl rfl (by simp) rfl ?_ <;> (try simp [-cB, *]))
      | (refine AOps.lendC rfl (hT) rfl (by simp) rfl rfl (by simp) rfl ?_ <;> (try simp [-cB, *]))
      | (refine AOps.pureG rfl (fun h => hT) rfl (by first | rfl | (simp; rfl)) (by simp) (by simp) rfl ?_ <;> (try simp [-cB, *]))
      | (with_reducible intro _))
    all_goals (first | assumption | omega | (rw [inR_i64]; omega) | (simp_all; done) | grind | skip)
  · intro hH
    simp [-cB, hH]
    refine AWP.loopL [1, 4] (List.range t.Params.length) (fun pre => [(4, .d (.v (.int .i64 pre.length)))]) (fun _ => []) (fun pre => allB (paramB t) pre = true) (by rfl) (by simp; omega) (by simp [allB_nil]) ?_ ?_
    · rintro pre x post hsp hH2 hlt hge a4
      have hall := allB_split hsp hH2
      have hx : pre.length = x := by simpa using hge
      simp at hlt
      subst hx
      have hsn : allB (paramB t) (pre ++ [pre.length]) = paramB t pre.length := by rw [allB_snoc, hH2]; simp
      have hlt2 : pre.length < t.Locals.length := by omega
      have hpx : paramB t pre.length = (fromB t.Params[pre.length] 0 8 && fromB t.Locals[pre.length] t.Params[pre.length] 24) := by simp [paramB, hlt, hlt2]
      clear hsp hge
      simp [-cB, hlt, hlt2, hall]
      refine AWP.regionD [.d (.v (.bool (fromB (t.Params[pre.length]?.getD 0) 0 8))), .d (.v (.bool (fromB (t.Locals[pre.length]?.getD 0) (t.Params[pre.length]?.getD 0) 24)))] Tryz.mixed (by kernel_rfl) (by rfl) ?_
      simp [-cB, hlt, hlt2, (refFrom_ok _ _ _).ok]
      refine condC_split (fun h => ?_) (fun h => ?_)
      · simp [-cB]
        simp at h
        all_goals (first | assumption | omega | (rw [inR_i64]; omega) | (simp_all; done) | grind | skip)
      · simp [-cB]
        simp at h
        all_goals (first | assumption | omega | (rw [inR_i64]; omega) | (simp_all; done) | grind | skip)
    · intro hH2
      simp [-cB, hH2]
      all_goals (first | assumption | omega | (rw [inR_i64]; omega) | (simp_all; done) | grind | skip)
def slotB (s : GSlot) : Bool := fromB s.Kind 1 5 && !(decide (s.Kind = 1) && decide (s.Words.length = 0)) && !(decide (s.Kind ≠ 1) && decide (0 < s.Words.length)) && wordsB s.Words 4
def nounB (s : GSlot) : Bool := decide (s.Kind = 2) || decide (s.Kind = 3)
def lineB (l : List GSlot) : Bool :=
  allB slotB l && (fromB l.length 1 8 && (decide ((l[0]?.getD GSlot.zero).Kind = 1) || decide ((l[0]?.getD GSlot.zero).Kind = 5)) && decide ((l.countP nounB : Int) ≤ 2) && decide ((l.countP (fun s => decide (s.Kind = 4)) : Int) ≤ 1) && decide ((l.countP (fun s => decide (s.Kind = 5)) : Int) ≤ 1))
set_option maxRecDepth 20000 in
theorem refLine_ok (l : List GSlot) (hl : l.length ≤ 1000000000000000) (hw : ∀ x ∈ l, x.wf) : Pure Tryz.prog 74 [.d (.sl (l.map GSlot.enc))] (.d (.v (.bool (lineB l)))) := by
  unfold lineB
  refine Pure.run Tryz.func74 rfl (by simp [Tryz.f74]) ?_; simp [-cB, Tryz.f74]
  refine AWP.loopL [0, 3, 4, 5, 6] l (fun pre => [(3, .d (.v (.int .i64 (pre.countP nounB)))), (4, .d (.v (.int .i64 (pre.countP (fun s => decide (s.Kind = 4)))))), (5, .d (.v (.int .i64 (pre.countP (fun s => decide (s.Kind = 5)))))), (6, .d (.v (.int .i64 pre.length)))]) (fun _ => []) (fun pre => allB slotB pre = true) (by rfl) (by omega) (by simp [allB_nil]) ?_ ?_
  · rintro pre x post hsp hH hlt hge a4
    have hall := allB_split hsp hH
    have hsn : allB slotB (pre ++ [x]) = slotB x := by simp [allB_snoc, hH]
    have hxw := hw x (by rw [hsp]; simp)
    have c1 := List.countP_le_length (p := nounB) (l := pre)
    have c2 := List.countP_le_length (p := fun s : GSlot => decide (s.Kind = 4)) (l := pre)
    have c3 := List.countP_le_length (p := fun s : GSlot => decide (s.Kind = 5)) (l := pre)
    have hn1 : (pre ++ [x]).countP nounB = pre.countP nounB + (if nounB x then 1 else 0) := by rw [List.countP_append]; simp [List.countP_cons]
    have hn2 : (pre ++ [x]).countP (fun s : GSlot => decide (s.Kind = 4)) = pre.countP (fun s : GSlot => decide (s.Kind = 4)) + (if x.Kind = 4 then 1 else 0) := by rw [List.countP_append]; simp [List.countP_cons]
    have hn3 : (pre ++ [x]).countP (fun s : GSlot => decide (s.Kind = 5)) = pre.countP (fun s : GSlot => decide (s.Kind = 5)) + (if x.Kind = 5 then 1 else 0) := by rw [List.countP_append]; simp [List.countP_cons]
    have hW := refWords_ok x.Words (by have := GSlot.wl_Words hxw; omega) (fun y hy => by have := GSlot.wf_Words hxw y hy; omega) 4
    have hsx : slotB x = (fromB x.Kind 1 5 && !(decide (x.Kind = 1) && decide (x.Words.length = 0)) && !(decide (x.Kind ≠ 1) && decide (0 < x.Words.length)) && wordsB x.Words 4) := rfl
    have hnx : nounB x = (decide (x.Kind = 2) || decide (x.Kind = 3)) := rfl
    generalize hk1 : pre.countP nounB = k1 at *
    generalize hk2 : pre.countP (fun s : GSlot => decide (s.Kind = 4)) = k2 at *
    generalize hk3 : pre.countP (fun s : GSlot => decide (s.Kind = 5)) = k3 at *
    clear hsp hw hk1 hk2 hk3
    simp [-cB, hlt, hge, hall, a4]
    repeat' (first
      | (with_reducible refine And.intro ?_ ?_)
      | (refine condC_split (fun h => ?_) (fun h => ?_) <;> (try simp at h) <;> (try simp [-cB, *]))
      | (refine AOps.pureC rfl (refFrom_ok _ _ _) rfl rfl (by simp) rfl ?_ <;> (try simp [-cB, *]))
      | (refine AOps.pureC rfl (hW) rfl rfl (by simp) rfl ?_ <;> (try simp [-cB, *]))
      | (refine AOps.lendC rfl (refFrom_ok _ _ _) rfl (by simp) rfl rfl (by simp) rfl ?_ <;> (try simp [-cB, *]))
      | (refine AOps.lendC rfl (hW) rfl (by simp) rfl rfl (by simp) rfl ?_ <;> (try simp [-cB, *]))
      | (refine AOps.pureG rfl (fun h => refFrom_ok _ _ _) rfl (by first | rfl | (simp; rfl)) (by simp) (by simp) rfl ?_ <;> (try simp [-cB, *]))
      | (refine AOps.pureG rfl (fun h => hW) rfl (by first | rfl | (simp; rfl)) (by simp) (by simp) rfl ?_ <;> (try simp [-cB, *]))
      | (with_reducible intro _))
    all_goals (first | assumption | omega | (rw [inR_i64]; omega) | (simp_all; done) | grind | skip)
  · intro hH
    have hF : fromB l.length 1 8 = true → 0 < l.length := by rw [fromB_iff]; omega
    simp [-cB, hH]
    repeat' (first
      | (with_reducible refine And.intro ?_ ?_)
      | (refine condC_split (fun h => ?_) (fun h => ?_) <;> (try simp at h) <;> (try simp [-cB, *]))
      | (refine AOps.pureC rfl (refFrom_ok _ _ _) rfl rfl (by simp) rfl ?_ <;> (try simp [-cB, *]))
      | (refine AOps.lendC rfl (refFrom_ok _ _ _) rfl (by simp) rfl rfl (by simp) rfl ?_ <;> (try simp [-cB, *]))
      | (refine AOps.pureG rfl (fun h => refFrom_ok _ _ _) rfl (by first | rfl | (simp; rfl)) (by simp) (by simp) rfl ?_ <;> (try simp [-cB, *]))
      | (with_reducible intro _))
    all_goals first | assumption | exact hF (by assumption)
end Go.Ab

namespace Go.Ab
open Go.Proofs
def actB (a : GAct) : Bool := fromB a.Lines.length 1 8 && allB lineB a.Lines
def deedB (t : GTables) (d : GDeed) : Bool :=
  fromB d.Verb 0 (t.Acts.length - 1) && fromB d.Phase 1 3 && (decide (d.Noun = -1) || thingB t d.Noun) && (decide (d.Second = -1) || thingB t d.Second) && routB t d.When true && routB t d.Body false
def rulesB (t : GTables) : Bool :=
  (decide (t.Acts.length ≤ 64) && decide (t.Deeds.length ≤ 512) && decide (t.Funcs.length ≤ 64) && decide (t.Daemons.length ≤ 16)) &&
  (allB actB t.Acts && (allB (deedB t) t.Deeds && (allB (fun n => fromB n 0 (t.Params.length - 1)) t.Funcs && allB (fun n => routB t n false) t.Daemons)))
set_option maxHeartbeats 1000000 in
set_option maxRecDepth 20000 in
theorem refRules_ok (t : GTables) (ht : t.wf) : Pure Tryz.prog 26 [.agg (t.enc.map .d)] (.d (.v (.bool (rulesB t)))) := by
  have hx1 := GTables.wl_Acts ht
  have hx2 := GTables.wl_Deeds ht
  have hx3 := GTables.wl_Funcs ht
  have hx4 := GTables.wl_Daemons ht
  have hx5 := GTables.wl_Params ht
  have hx6 := GTables.wf_Acts ht
  have hx7 := GTables.wf_Deeds ht
  unfold rulesB
  refine Pure.run Tryz.func26 rfl (by simp [Tryz.f26]) ?_; simp [-cB, Tryz.f26]
  repeat' (first
    | (with_reducible refine And.intro ?_ ?_)
    | (refine condC_split (fun h => ?_) (fun h => ?_) <;> (try simp at h) <;> (try simp [-cB, *]))
    | (refine AOps.pureC rfl (refText_ok t ht _ _) rfl rfl (by simp) rfl ?_ <;> (try simp [-cB, *]))
    | (refine AOps.lendC rfl (refText_ok t ht _ _) rfl (by simp) rfl rfl (by simp) rfl ?_ <;> (try simp [-cB, *]))
    | (refine AOps.pureG rfl (fun h => refText_ok t ht _ _) rfl (by first | rfl | (simp; rfl)) (by simp) (by simp) rfl ?_ <;> (try simp [-cB, *]))
    | (with_reducible intro _))
  all_goals (first | assumption | omega | (rw [inR_i64]; omega) | (simp_all; done) | grind | skip)
  have e1 : t.Acts.length ≤ 64 := by omega
  have e2 : t.Deeds.length ≤ 512 := by omega
  have e3 : t.Funcs.length ≤ 64 := by omega
  have e4 : t.Daemons.length ≤ 16 := by omega
  refine AWP.loopL [1, 3] t.Acts (fun pre => [(3, .d (.v (.int .i64 pre.length)))]) (fun _ => []) (fun pre => allB actB pre = true) (by rfl) (by omega) (by simp [allB_nil]) ?_ ?_
  · rintro pre x post hsp hH hlt hge a4
    have hall := allB_split hsp hH
    have hsn : allB actB (pre ++ [x]) = actB x := by simp [allB_snoc, hH]
    have hxw := hx6 x (by rw [hsp]; simp)
    have hax : actB x = (fromB x.Lines.length 1 8 && allB lineB x.Lines) := rfl
    clear hsp hx6 hx7
    simp [-cB, hlt, hge, hall, a4]
    repeat' (first
      | (with_reducible refine And.intro ?_ ?_)
      | (refine condC_split (fun h => ?_) (fun h => ?_) <;> (try simp at h) <;> (try simp [-cB, *]))
      | (refine AOps.pureC rfl (refFrom_ok _ _ _) rfl rfl (by simp) rfl ?_ <;> (try simp [-cB, *]))
      | (refine AOps.lendC rfl (refFrom_ok _ _ _) rfl (by simp) rfl rfl (by simp) rfl ?_ <;> (try simp [-cB, *]))
      | (refine AOps.pureG rfl (fun h => refFrom_ok _ _ _) rfl (by first | rfl | (simp; rfl)) (by simp) (by simp) rfl ?_ <;> (try simp [-cB, *]))
      | (with_reducible intro _))
    all_goals (first | assumption | omega | (rw [inR_i64]; omega) | (simp_all; done) | grind | skip)
    refine AWP.loopL [1, 3, 4] x.Lines (fun pre => [(4, .d (.v (.int .i64 pre.length)))]) (fun _ => []) (fun pre => allB lineB pre = true) (by rfl) (by have := GAct.wl_Lines hxw; omega) (by simp [allB_nil]) ?_ ?_
    · rintro pre2 y post2 hsp hH2 hlt2 hge2 a5
      have hall2 := allB_split hsp hH2
      have hsn2 : allB lineB (pre2 ++ [y]) = lineB y := by simp [allB_snoc, hH2]
      have hyw := GAct.wf_Lines hxw y (by rw [hsp]; simp)
      have hL := refLine_ok y (by omega) hyw.2
      clear hsp
      simp [-cB, hlt, hge, hlt2, hge2, hall2, a4, a5]
      repeat' (first
        | (with_reducible refine And.intro ?_ ?_)
        | (refine condC_split (fun h => ?_) (fun h => ?_) <;> (try simp at h) <;> (try simp [-cB, *]))
        | (refine AOps.pureC rfl (hL) rfl rfl (by simp) rfl ?_ <;> (try simp [-cB, *]))
        | (refine AOps.lendC rfl (hL) rfl (by simp) rfl rfl (by simp) rfl ?_ <;> (try simp [-cB, *]))
        | (refine AOps.pureG rfl (fun h => hL) rfl (by first | rfl | (simp; rfl)) (by simp) (by simp) rfl ?_ <;> (try simp [-cB, *]))
        | (with_reducible intro _))
      all_goals (first | assumption | omega | (rw [inR_i64]; omega) | (simp_all; done) | grind | skip)
    · intro hH2
      simp [-cB, hlt, hge, hH2]
      repeat' (first
        | (with_reducible refine And.intro ?_ ?_)
        | (refine condC_split (fun h => ?_) (fun h => ?_) <;> (try simp at h) <;> (try simp [-cB, *]))
        | (refine AOps.pureC rfl (refFrom_ok _ _ _) rfl rfl (by simp) rfl ?_ <;> (try simp [-cB, *]))
        | (refine AOps.lendC rfl (refFrom_ok _ _ _) rfl (by simp) rfl rfl (by simp) rfl ?_ <;> (try simp [-cB, *]))
        | (refine AOps.pureG rfl (fun h => refFrom_ok _ _ _) rfl (by first | rfl | (simp; rfl)) (by simp) (by simp) rfl ?_ <;> (try simp [-cB, *]))
        | (with_reducible intro _))
      all_goals (first | assumption | omega | (rw [inR_i64]; omega) | (simp_all; done) | grind | skip)
  · intro hH
    simp [-cB, hH]
    refine AWP.loopL [1, 5] t.Deeds (fun pre => [(5, .d (.v (.int .i64 pre.length)))]) (fun _ => []) (fun pre => allB (deedB t) pre = true) (by rfl) (by omega) (by simp [allB_nil]) ?_ ?_
    · rintro pre x post hsp hH2 hlt hge a4
      have hall := allB_split hsp hH2
      have hsn : allB (deedB t) (pre ++ [x]) = deedB t x := by simp [allB_snoc, hH2]
      have hxw := hx7 x (by rw [hsp]; simp)
      have hdx : deedB t x = (fromB x.Verb 0 (t.Acts.length - 1) && fromB x.Phase 1 3 && (decide (x.Noun = -1) || thingB t x.Noun) && (decide (x.Second = -1) || thingB t x.Second) && routB t x.When true && routB t x.Body false) := rfl
      clear hsp hx6 hx7
      simp [-cB, hlt, hge, hall, a4]
      repeat' (first
        | (with_reducible refine And.intro ?_ ?_)
        | (refine condC_split (fun h => ?_) (fun h => ?_) <;> (try simp at h) <;> (try simp [-cB, *]))
        | (refine AOps.pureC rfl (refFrom_ok _ _ _) rfl rfl (by simp) rfl ?_ <;> (try simp [-cB, *]))
        | (refine AOps.pureC rfl (refThing_ok t ht _) rfl rfl (by simp) rfl ?_ <;> (try simp [-cB, *]))
        | (refine AOps.pureC rfl (refRoutine_ok t ht _ _) rfl rfl (by simp) rfl ?_ <;> (try simp [-cB, *]))
        | (refine AOps.lendC rfl (refFrom_ok _ _ _) rfl (by simp) rfl rfl (by simp) rfl ?_ <;> (try simp [-cB, *]))
        | (refine AOps.lendC rfl (refThing_ok t ht _) rfl (by simp) rfl rfl (by simp) rfl ?_ <;> (try simp [-cB, *]))
        | (refine AOps.lendC rfl (refRoutine_ok t ht _ _) rfl (by simp) rfl rfl (by simp) rfl ?_ <;> (try simp [-cB, *]))
        | (refine AOps.pureG rfl (fun h => refFrom_ok _ _ _) rfl (by first | rfl | (simp; rfl)) (by simp) (by simp) rfl ?_ <;> (try simp [-cB, *]))
        | (refine AOps.pureG rfl (fun h => refThing_ok t ht _) rfl (by first | rfl | (simp; rfl)) (by simp) (by simp) rfl ?_ <;> (try simp [-cB, *]))
        | (refine AOps.pureG rfl (fun h => refRoutine_ok t ht _ _) rfl (by first | rfl | (simp; rfl)) (by simp) (by simp) rfl ?_ <;> (try simp [-cB, *]))
        | (with_reducible intro _))
      all_goals (first | assumption | omega | (rw [inR_i64]; omega) | (simp_all; done) | grind | skip)
    · intro hH2
      simp [-cB, hH2]
      refine AWP.loopL [1, 7] t.Funcs (fun pre => [(7, .d (.v (.int .i64 pre.length)))]) (fun _ => []) (fun pre => allB (fun n => fromB n 0 (t.Params.length - 1)) pre = true) (by rfl) (by omega) (by simp [allB_nil]) ?_ ?_
      · rintro pre x post hsp hH3 hlt hge a4
        have hall := allB_split hsp hH3
        have hsn : allB (fun n => fromB n 0 (t.Params.length - 1)) (pre ++ [x]) = fromB x 0 (t.Params.length - 1) := by rw [allB_snoc, hH3]; simp
        clear hsp hx6 hx7
        simp [-cB, hlt, hge, hall, a4]
        refine AWP.regionD [.d (.v (.bool (fromB x 0 (t.Params.length - 1))))] Tryz.mixed (by kernel_rfl) (by rfl) ?_
        simp [-cB, hlt, hge, (refFrom_ok _ _ _).ok]
        refine ⟨by rw [inR_i64]; omega, ?_⟩
        repeat' (first
          | (with_reducible refine And.intro ?_ ?_)
          | (refine condC_split (fun h => ?_) (fun h => ?_) <;> (try simp at h) <;> (try simp [-cB, *]))
          | (refine AOps.pureC rfl (refFrom_ok _ _ _) rfl rfl (by simp) rfl ?_ <;> (try simp [-cB, *]))
          | (refine AOps.lendC rfl (refFrom_ok _ _ _) rfl (by simp) rfl rfl (by simp) rfl ?_ <;> (try simp [-cB, *]))
          | (refine AOps.pureG rfl (fun h => refFrom_ok _ _ _) rfl (by first | rfl | (simp; rfl)) (by simp) (by simp) rfl ?_ <;> (try simp [-cB, *]))
          | (with_reducible intro _))
        all_goals (first | assumption | omega | (rw [inR_i64]; omega) | (simp_all; done) | grind | skip)
      · intro hH3
        simp [-cB, hH3]
        refine AWP.loopL [1, 8] t.Daemons (fun pre => [(8, .d (.v (.int .i64 pre.length)))]) (fun _ => []) (fun pre => allB (fun n => routB t n false) pre = true) (by rfl) (by omega) (by simp [allB_nil]) ?_ ?_
        · rintro pre x post hsp hH4 hlt hge a4
          have hall := allB_split hsp hH4
          have hsn : allB (fun n => routB t n false) (pre ++ [x]) = routB t x false := by rw [allB_snoc, hH4]; simp
          clear hsp hx6 hx7
          simp [-cB, hlt, hge, hall, a4]
          refine AWP.regionD [.d (.v (.bool (routB t x false)))] Tryz.mixed (by kernel_rfl) (by rfl) ?_
          simp [-cB, hlt, hge, (refRoutine_ok t ht _ _).ok]
          repeat' (first
            | (with_reducible refine And.intro ?_ ?_)
            | (refine condC_split (fun h => ?_) (fun h => ?_) <;> (try simp at h) <;> (try simp [-cB, *]))
            | (refine AOps.pureC rfl (refFrom_ok _ _ _) rfl rfl (by simp) rfl ?_ <;> (try simp [-cB, *]))
            | (refine AOps.lendC rfl (refFrom_ok _ _ _) rfl (by simp) rfl rfl (by simp) rfl ?_ <;> (try simp [-cB, *]))
            | (refine AOps.pureG rfl (fun h => refFrom_ok _ _ _) rfl (by first | rfl | (simp; rfl)) (by simp) (by simp) rfl ?_ <;> (try simp [-cB, *]))
            | (with_reducible intro _))
          all_goals (first | assumption | omega | (rw [inR_i64]; omega) | (simp_all; done) | grind | skip)
        · intro hH4
          simp [hH4, e1, e2, e3, e4]
def fitsB (t : GTables) : Bool := headB t && thingsB t && rulesB t
theorem refFits_ok (t : GTables) (ht : t.wf) : Pure Tryz.prog 8 [.agg (t.enc.map .d)] (.d (.v (.bool (fitsB t)))) := by
  unfold fitsB
  refine Pure.run Tryz.func8 rfl (by simp [Tryz.f8]) ?_; simp [-cB, Tryz.f8]
  repeat' (first
    | (with_reducible refine And.intro ?_ ?_)
    | (refine condC_split (fun h => ?_) (fun h => ?_) <;> (try simp at h) <;> (try simp [-cB, *]))
    | (refine AOps.pureC rfl (refHead_ok t ht) rfl rfl (by simp) rfl ?_ <;> (try simp [-cB, *]))
    | (refine AOps.pureC rfl (refThings_ok t ht) rfl rfl (by simp) rfl ?_ <;> (try simp [-cB, *]))
    | (refine AOps.pureC rfl (refRules_ok t ht) rfl rfl (by simp) rfl ?_ <;> (try simp [-cB, *]))
    | (refine AOps.lendC rfl (refHead_ok t ht) rfl (by simp) rfl rfl (by simp) rfl ?_ <;> (try simp [-cB, *]))
    | (refine AOps.lendC rfl (refThings_ok t ht) rfl (by simp) rfl rfl (by simp) rfl ?_ <;> (try simp [-cB, *]))
    | (refine AOps.lendC rfl (refRules_ok t ht) rfl (by simp) rfl rfl (by simp) rfl ?_ <;> (try simp [-cB, *]))
    | (refine AOps.pureG rfl (fun h => refHead_ok t ht) rfl (by first | rfl | (simp; rfl)) (by simp) (by simp) rfl ?_ <;> (try simp [-cB, *]))
    | (refine AOps.pureG rfl (fun h => refThings_ok t ht) rfl (by first | rfl | (simp; rfl)) (by simp) (by simp) rfl ?_ <;> (try simp [-cB, *]))
    | (refine AOps.pureG rfl (fun h => refRules_ok t ht) rfl (by first | rfl | (simp; rfl)) (by simp) (by simp) rfl ?_ <;> (try simp [-cB, *]))
    | (with_reducible intro _))
  all_goals (first | assumption | omega | (rw [inR_i64]; omega) | (simp_all; done) | grind | skip)
end Go.Ab

namespace Go.Ab
open Go.Proofs
theorem refAll_ok (l : List Int) (hl : l.length ≤ 1000000000000000) (lo hi : Int) : Pure Tryz.prog 29 [.d (.sl (encI l)), .d (.v (.int .i64 lo)), .d (.v (.int .i64 hi))] (.d (.v (.bool (allB (fun x => fromB x lo hi) l)))) := by
  refine Pure.run Tryz.func29 rfl (by simp [Tryz.f29]) ?_; simp [-cB, Tryz.f29]
  refine AWP.loopL [0, 1, 2, 7] l (fun pre => [(7, .d (.v (.int .i64 pre.length)))]) (fun _ => []) (fun pre => allB (fun x => fromB x lo hi) pre = true) (by rfl) (by omega) (by simp [allB_nil]) ?_ ?_
  · rintro pre x post hsp hH hlt hge a4
    have hall := allB_split hsp hH
    have hsn := allB_snoc (fun x => fromB x lo hi) pre x
    rw [hH] at hsn
    clear hsp
    simp [-cB, hlt, hge]
    refine AOps.pureC rfl (refFrom_ok _ _ _) rfl rfl (by simp) rfl ?_
    simp [-cB]
    refine condC_split (fun h => ?_) (fun h => ?_) <;> simp at h <;> simp [-cB, h, hlt, hge, hall, hsn, a4]
  · intro hH
    simp [-cB, hH]
def placedM (t : GTables) (w : GWorld) : Bool := (List.range (t.Things.length - 1)).all (fun k => !((thingAt t (k + 1)).Room && decide (atI w.Parent (k + 1) ≠ 0))) && (thingAt t (topM w.tree 1)).Room
theorem topM_bd (t : Tree) (x : Int) (h : 0 < t.Par.length) : 0 ≤ topM t x ∧ topM t x < t.Par.length := by
  unfold topM
  cases hl : (upsM t x).getLast? with
  | none => simp [List.getLastD_eq_getLast?, hl]; omega
  | some y =>
    have := chainM_mem (List.mem_of_getLast? hl)
    simp [List.getLastD_eq_getLast?, hl]
    omega
theorem refPlaced_ok (t : GTables) (ht : t.wf) (w : GWorld) (hw : w.wf) (hlen : w.Parent.length = t.Things.length) (hpos : 0 < t.Things.length) : Pure Tryz.prog 33 [.agg (t.enc.map .d), .agg (w.enc.map .d)] (.d (.v (.bool (placedM t w)))) := by
  have hl := GWorld.wl_Parent hw
  have htop := (reftop_ok w hw 1).ok
  have hb := topM_bd w.tree 1 (by show 0 < w.Parent.length; omega)
  have e1 : w.tree.Par = w.Parent := rfl
  rw [e1] at hb
  unfold placedM
  generalize hres : ((List.range (t.Things.length - 1)).all (fun k => !((thingAt t (k + 1)).Room && decide (atI w.Parent (k + 1) ≠ 0)))) = res
  refine Pure.run Tryz.func33 rfl (by simp [Tryz.f33]) ?_; simp [-cB, Tryz.f33]
  intro bs
  refine AWP.loopS [2, 3, 5] (t.Things.length - 1) (fun i => [(5, .d (.v (.int .i64 (i + 1))))]) (fun _ => []) (fun i => ∀ k < i, ((thingAt t (k + 1)).Room && decide (atI w.Parent (k + 1) ≠ 0)) = false) (by rfl) (by simp) ?_
  intro i hi hH
  rcases Nat.lt_or_eq_of_le hi with hlt | hie
  · have a4 : inR .i64 ((i : Int) + 1 + 1) := by rw [inR_i64]; omega
    have hlt' : (i : Int) + 1 < t.Things.length := by omega
    have hlt2 : i + 1 < t.Things.length := by omega
    have gx1 := getD_atI w.Parent ((i : Int) + 1) (by omega)
    have ex1 := elem_atI w.Parent ((i : Int) + 1) (by omega) (by omega)
    have tg := thingAt_get (t := t) (n := (i : Int) + 1) (by omega)
    have te := thingAt_elem (t := t) (n := (i : Int) + 1) (by omega)
    have hto : ((i : Int) + 1).toNat = i + 1 := by omega
    simp only [hto] at gx1 ex1 tg te
    have hnode : ((thingAt t ((i : Int) + 1)).Room && decide (atI w.Parent ((i : Int) + 1) ≠ 0)) = true → res = false := fun h => by
      rw [← hres, List.all_eq_false]
      exact ⟨i, List.mem_range.2 hlt, by simp only [h]; simp⟩
    have hgo : ((thingAt t ((i : Int) + 1)).Room && decide (atI w.Parent ((i : Int) + 1) ≠ 0)) = false → ∀ k < i + 1, ((thingAt t ((k : Int) + 1)).Room && decide (atI w.Parent ((k : Int) + 1) ≠ 0)) = false := fun h k hk => by
      rcases Nat.lt_or_ge k i with h2 | h2
      · exact hH k h2
      · rw [show k = i by omega]; exact h
    generalize hTh : thingAt t ((i : Int) + 1) = th at *
    generalize atI w.Parent ((i : Int) + 1) = p at *
    simp [-cB, hlt', hlt2, gx1, ex1, tg, te]
    refine ⟨by omega, fun _ => ⟨by omega, by assumption⟩, ?_⟩
    have hc : (th.Room && (p != 0)) = (th.Room && decide (p ≠ 0)) := by rw [Bool.eq_iff_iff]; simp
    rw [hc]
    refine condC_split (fun h => ?_) (fun h => ?_)
    · have := hnode h
      simp [this]
    · have := hgo h
      simp [-cB, a4]
      exact ⟨by omega, by simpa using this⟩
  · subst hie
    have hr : res = true := by
      rw [← hres, List.all_eq_true]
      intro k hk
      rw [hH k (List.mem_range.1 hk)]
      rfl
    have hnl : ¬ (((t.Things.length - 1 : Nat) : Int) + 1 < t.Things.length) := by omega
    have tg := thingAt_get (t := t) (n := topM w.tree 1) (by omega)
    have te := thingAt_elem (t := t) (n := topM w.tree 1) (by omega)
    simp [-cB, hnl, hr]
    refine AWP.regionD [.d (.v (.int .i64 (topM w.tree 1)))] Tryz.mixed (by kernel_rfl) (by rfl) ?_
    simp [-cB, htop, tg, te]
    omega
def rightB (t : GTables) (w : GWorld) : Bool :=
  decide (w.Globals.length = t.Globals.length) && decide (w.Parent.length = t.Things.length) && decide (w.Flags.length = t.Things.length) && decide (w.Props.length = t.Things.length * t.Props.length) && decide (w.Timers.length = t.Daemons.length) && nestedB w.tree &&
  (allB int16 w.Globals && allB int16 w.Props && allB (fun x => fromB x 0 (bitsM t.Flags - 1)) w.Flags && allB (fun x => fromB x 0 32767) w.Timers && int16 w.Score && fromB w.Turns 0 2147483647) &&
  (fromB w.Over 0 3 && fromB w.It 0 (t.Things.length - 1) && fromB w.Go 0 12 && placedM t w)
set_option maxRecDepth 20000 in
set_option maxHeartbeats 4000000 in
theorem refRight_ok (t : GTables) (ht : t.wf) (w : GWorld) (hw : w.wf) (hpr : t.Props.length ≤ 16) (htl : t.Things.length ≤ 128) : Pure Tryz.prog 9 [.agg (t.enc.map .d), .agg (w.enc.map .d)] (.d (.v (.bool (rightB t w)))) := by
  have hl := GWorld.wl_Parent hw
  have l1 := GWorld.wl_Globals hw
  have l5 := GWorld.wl_Flags hw
  have l6 := GWorld.wl_Props hw
  have l7 := GWorld.wl_Timers hw
  have hmul : inR .i64 ((t.Things.length : Int) * t.Props.length) := by
    have h1 : t.Things.length * t.Props.length ≤ 128 * 16 := Nat.mul_le_mul htl hpr
    have h2 : ((t.Things.length : Int) * t.Props.length) = ((t.Things.length * t.Props.length : Nat) : Int) := by simp
    rw [h2, inR_i64]; omega
  have hN := refNested_ok w hw
  have hb := bitsM_le t.Flags
  have c1 := (refValues_ok w.Globals (by omega)).ok
  have c2 := (refValues_ok w.Props (by omega)).ok
  have c3 := (refBits_ok t.Flags).ok
  have c4 := (refAll_ok w.Flags (by omega) 0 (bitsM t.Flags - 1)).ok
  have c5 := (refAll_ok w.Timers (by omega) 0 32767).ok
  have c6 := (refIs_ok w.Score).ok
  have c7 := (refFrom_ok w.Turns 0 2147483647).ok
  unfold rightB
  have c8 := refFrom_ok w.Over 0 3
  have c9 := refFrom_ok w.It 0 (t.Things.length - 1)
  have c10 := refFrom_ok w.Go 0 12
  refine Pure.run Tryz.func9 rfl (by simp [Tryz.f9]) ?_; simp [-cB, Tryz.f9]
  intro bs
  refine ⟨fun a1 a2 a3 => ⟨hmul, ⟨a1, a2⟩, a3⟩, ?_⟩
  refine AOps.pureG rfl (fun h => hN) rfl (by first | rfl | (simp; rfl)) (by simp) (by simp) rfl ?_
  simp [-cB]
  refine condC_split (fun h => ?_) (fun h => ?_) <;> simp at h
  · simp [-cB]
    intro a1 a2 a3 a4 a5 a6
    exfalso
    rcases h with ((((h | h) | h) | h) | h) | h
    · omega
    · omega
    · omega
    · rw [a4] at h; simp at h
    · omega
    · rw [a6] at h; cases h
  · simp [-cB]
    have hm := h.1.1.2
    have hlen : w.Parent.length = t.Things.length := by omega
    have hP : w.Props.length = t.Things.length * t.Props.length := by
      have : ((t.Things.length : Int) * t.Props.length) = ((t.Things.length * t.Props.length : Nat) : Int) := by simp
      omega
    have hpos : 0 < t.Things.length := by
      have := h.2
      unfold nestedB at this
      simp at this
      have := this.1.1.1.1.1.1
      have e1 : w.tree.Par = w.Parent := rfl
      rw [e1] at this
      have := List.length_pos_iff.2 this
      omega
    have c11 := refPlaced_ok t ht w hw hlen hpos
    have f1 : w.Globals.length = t.Globals.length := by omega
    have f3 : w.Flags.length = t.Things.length := by omega
    have f5 : w.Timers.length = t.Daemons.length := by omega
    have f6 := h.2
    refine AWP.regionD [.d (.v (.bool (allB int16 w.Globals))), .d (.v (.bool (allB int16 w.Props))), .d (.v (.int .i64 (bitsM t.Flags))), .d (.v (.bool (allB (fun x => fromB x 0 (bitsM t.Flags - 1)) w.Flags))), .d (.v (.bool (allB (fun x => fromB x 0 32767) w.Timers))), .d (.v (.bool (int16 w.Score))), .d (.v (.bool (fromB w.Turns 0 2147483647)))] Tryz.mixed (by kernel_rfl) (by rfl) ?_
    simp [-cB, c1, c2, c3, c4, c5, c6, c7]
    refine ⟨fun a b => ⟨by rw [inR_i64]; omega, a, b⟩, ?_⟩
    refine condC_split (fun h2 => ?_) (fun h2 => ?_) <;> simp at h2
    · simp [-cB]
      intro a1 a2 a3 a4 a5 a6 b1 b2 b3 b4 b5 b6
      exfalso
      simp [*] at h2
    · obtain ⟨⟨⟨⟨⟨b1, b2⟩, b3⟩, b4⟩, b5⟩, b6⟩ := h2
      simp [-cB]
      refine AOps.pureC rfl (c8) rfl rfl (by simp) rfl ?_
      simp [-cB]
      refine ⟨fun a => ⟨by rw [inR_i64]; omega, a⟩, ?_⟩
      refine AOps.pureG rfl (fun _ => c9) rfl (by first | rfl | (simp; rfl)) (by simp) (by simp) rfl ?_
      simp [-cB]
      refine AOps.pureG rfl (fun _ => c10) rfl (by first | rfl | (simp; rfl)) (by simp) (by simp) rfl ?_
      simp [-cB]
      refine AOps.pureG rfl (fun _ => c11) rfl (by first | rfl | (simp; rfl)) (by simp) (by simp) rfl ?_
      simp [hlen, hP, f1, f3, f5, f6, b1, b2, b3, b4, b5, b6]
end Go.Ab

namespace Go.Ab
section
variable {P : Program} {n : Nat} {s : St} {Q : AX → St → Prop}
def ModeR (w : World) (O : Nat → Prop) (m : Nat → Option Value) : FrameMode → Option V → Prop
  | .returning, none => True
  | .panicking chain, some x => Chain w O m chain x
  | _, _ => False
def DEnds (w : World) (O : Nat → Prop) (m : Nat → Option Value) (u' : FrameMode) (r : Option V) : Ending → Prop
  | .returned _ => ModeR w O m (settle u') r
  | .panicked chain => ModeR w O m (raised u' chain) r
  | .outgrown => False
def DPost (fo : FO) (m : Nat → Option Value) (w : World) (R : Option V → Heap → Prop) (e : Ending) (u' : FrameMode) (w' : World) : Prop :=
  ∃ m' r L', R r L' ∧ DEnds w' (OO fo m') m' u' r e ∧ Inv fo m' L' w' ∧ Step w (own m) w' (own m')
def DCalls (P : Program) (f : FuncId) (args : List V) (L : Heap) (px : Option V) (R : Option V → Heap → Prop) : Prop :=
  ∀ (fo : FO) m w (xs : Array Value) u, Inv fo m L w → RelVs w (OO fo m) m xs args → ModeR w (OO fo m) m u px → CallsDIn Fence.wide 0 P f xs u w (DPost fo m w R)
def DQ (R : Option V → Heap → Prop) : AX → St → Prop
  | .normal, s => R none s.L
  | .ret, s => R none s.L
  | .pan y, s => R (some y) s.L
  | _, _ => False
def RecM (u u' : FrameMode) (px : Option V) : Prop :=
  match px with
  | none => u = .returning ∧ u' = .returning
  | some _ => ∃ v older, u = .panicking ({ v := v, recovered := false } :: older) ∧ u' = .panicking ({ v := v, recovered := true } :: older) ∧ ∀ e ∈ older, e.goexit = false
theorem settle_rec {u u' : FrameMode} {px : Option V} (h : RecM u u' px) : settle u' = .returning := by
  unfold RecM at h
  cases px with
  | none => obtain ⟨_, rfl⟩ := h; rfl
  | some x =>
    obtain ⟨v, older, hu, rfl, ho⟩ := h
    clear hu
    unfold settle
    have : older.dropWhile (fun e => !e.goexit) = [] := by
      induction older with
      | nil => rfl
      | cons e l ih =>
        rw [List.dropWhile_cons, ho e List.mem_cons_self]
        simp only [Bool.not_false, if_true]
        exact ih (fun e h => ho e (List.mem_cons_of_mem _ h))
    simp only [this]
theorem raised_rec {u u' : FrameMode} {px : Option V} (h : RecM u u' px) {w : World} {O : Nat → Prop} {m : Nat → Option Value} {chain : List PanicEntry} {y : V} (hc : Chain w O m chain y) : ModeR w O m (raised u' chain) (some y) := by
  unfold RecM at h
  obtain ⟨v, older, rfl, hold, hv⟩ := hc
  cases px with
  | none => obtain ⟨_, rfl⟩ := h; exact ⟨v, older, rfl, hold, hv⟩
  | some x =>
    obtain ⟨v', older', _, rfl, ho⟩ := h
    refine ⟨v, older ++ { v := v', recovered := true } :: older', rfl, fun e he => ?_, hv⟩
    rcases List.mem_append.1 he with he | he
    · exact hold e he
    · rcases List.mem_cons.1 he with rfl | he
      · rfl
      · exact ho e he
def SWP (P : Program) (n : Nat) (c : Code) (s : St) (px : Option V) (R : Option V → Heap → Prop) : Prop :=
  ∀ (fo : FO) m a w (w0 : World) (m0 : Nat → Option Value) (fn : Func) (c0 : Frame) (cs : List Frame), fo.D = [] → fo.r = none → fo.nm = true → fn.results.toList = [] → G fo n m s a w → ModeR w (OO fo m) m c0.mode px → Step w0 (own m0) w (own m) →
    c.wpSIn Fence.wide 0 P (bodyPostS P fn c0 cs (DPost fo m0 w0 R)) a (c0 :: cs) w
def pxOn : Option V → Bool
  | none => true
  | some x => x.on []
def recV : Option V → V
  | none => .d (.v .nilIface)
  | some x => x
def movesSt : List Oper → St → Option St
  | [], s => some s
  | o :: l, s => match o.op, o.dst, o.guard with
    | .move x, some d, none => movesSt l (s.put (some d) (s.ev x))
    | .assign x, some d, none => movesSt l (s.put (some d) (s.ev x))
    | _, _, _ => none
def movesOk (n : Nat) (l : List Oper) : Bool := l.all fun o => match o.dst with
  | some d => decide (d < n)
  | none => false
theorem moves_S {fo : FO} {m : Nat → Option Value} {ops : Array Oper} {K : Exit → Act → List Frame → World → Prop} {cs : List Frame} {w : World} : ∀ (l : List Oper) (k : Nat) (s s' : St) (a : Act), (∀ j, l[j]? = ops[k + j]?) → movesSt l s = some s' → movesOk n l = true → G fo n m s a w →
    (∀ a', G fo n m s' a' w → K .normal a' cs w) → wpOpsSIn Fence.wide 0 P ops K (List.range' k l.length) a cs w
  | [], k, s, s', a, _, hm, _, g, hK => by
    simp only [movesSt, Option.some.injEq] at hm
    subst hm
    exact hK a g
  | o :: l, k, s, s', a, hl, hm, hok, g, hK => by
    have h0 : ops[k]? = some o := by simpa using (hl 0).symm
    have hl' : ∀ j, l[j]? = ops[k + 1 + j]? := fun j => by
      have := hl (j + 1)
      rw [show k + 1 + j = k + (j + 1) by omega]
      simpa using this
    simp only [movesOk, List.all_cons, Bool.and_eq_true] at hok
    rw [List.length_cons, List.range'_succ]
    simp only [wpOpsSIn, h0]
    refine ⟨fun _ _ => trivial, ?_⟩
    have key : ∀ x d, o.dst = some d → o.guard = none → (execOp a.eval o).run P w = .ok (.value (a.eval x)) w → movesSt l (s.put (some d) (s.ev x)) = some s' →
        (if Region.wanted o (yielded ops a.tmps) = true then
          match (execOp a.eval o).run P w with
          | .ok .recover w' =>
            match recoverD cs with
            | some (v, cs') => wpOpsSIn Fence.wide 0 P ops K (List.range' (k + 1) l.length) (a.put o.dst v) cs' w'
            | none => wpOpsSIn Fence.wide 0 P ops K (List.range' (k + 1) l.length) (a.put o.dst .nilIface) cs w'
          | .ok (.value v) w' => wpOpsSIn Fence.wide 0 P ops K (List.range' (k + 1) l.length) (a.put o.dst v) cs w'
          | .ok .skip w' => wpOpsSIn Fence.wide 0 P ops K (List.range' (k + 1) l.length) (a.put o.dst undef) cs w'
          | .halt (.panic v) w' => K (.panic [{ v, recovered := false }]) a cs w'
          | _ => False
        else wpOpsSIn Fence.wide 0 P ops K (List.range' (k + 1) l.length) (a.put o.dst undef) cs w) := by
      intro x d hd hg hrun hms
      rw [if_pos (by simp [Region.wanted, hg]), hrun]
      have hdn : d < n := by
        have := hok.1
        rw [hd] at this
        simpa using this
      have gp : G fo n m (s.put (some d) (s.ev x)) (a.put o.dst (a.eval x)) w := by
        rw [hd]
        exact g.put (dst := some d) (fun d' e => by obtain rfl := Option.some.inj e; exact hdn) (eval_rel g x)
      exact moves_S l (k + 1) _ s' _ hl' hms hok.2 gp hK
    unfold movesSt at hm
    split at hm
    · rename_i x d hop hd hg
      exact key x d hd hg (by simp [execOp, hop]) hm
    · rename_i x d hop hd hg
      exact key x d hd hg (by simp [execOp, hop]) hm
    · cases hm
theorem SWP.rest {y : Code} {px : Option V} {R : Option V → Heap → Prop} {fo : FO} {m : Nat → Option Value} {a : Act} {w w0 : World} {m0 : Nat → Option Value} {fn : Func} {c0 : Frame} {cs : List Frame} {u' : FrameMode} (hD : fo.D = []) (hr : fo.r = none) (hnm : fo.nm = true) (hres : fn.results.toList = [])
    (g : G fo n m s a w) (hrec : RecM c0.mode u' px) (st0 : Step w0 (own m0) w (own m)) (hrf : hasRF y = false) (h : AWP P n y s (DQ R)) : y.wpSIn Fence.wide 0 P (bodyPostS P fn c0 cs (DPost fo m0 w0 R)) a ({ c0 with mode := u' } :: cs) w := by
  refine wpSIn_of_wpIn rfl ?_
  have h1 := h fo m a w (fun e => by rw [hrf] at e; cases e) g
  rw [hr] at h1
  have hresults : ∀ T : Array Value, ∀ w1, (results fn T).run P w1 = .ok (.tuple #[]) w1 := by
    intro T w1
    rw [results_eq, Array.mapM_eq_mapM_toList, hres]
    simp
  refine Code.wpIn_mono (F := Fence.wide) ?_ h1
  rintro e a1 w1 ⟨ms, m1, x1, s1, hmk, hq, g1, hx1, st⟩
  obtain rfl := hmk.1.2 hnm
  rw [FO.mark_nil] at g1 hx1
  have hdf : a1.defers = [] := by rw [g1.defers, hD]
  cases e with
  | normal =>
    cases x1 <;> simp only [Exits] at hx1
    exact ⟨hdf, u', rfl, _, hresults _ _, m1, none, s1.L, hq, by simp only [DEnds, settle_rec hrec, ModeR], g1.inv, st0.trans st⟩
  | ret =>
    cases x1 <;> simp only [Exits] at hx1
    exact ⟨hdf, u', rfl, _, hresults _ _, m1, none, s1.L, hq, by simp only [DEnds, settle_rec hrec, ModeR], g1.inv, st0.trans st⟩
  | panic ch =>
    cases x1 <;> simp only [Exits] at hx1
    rename_i y'
    exact ⟨hdf, u', rfl, m1, some y', s1.L, hq, raised_rec hrec hx1, g1.inv, st0.trans st⟩
  | exit i => cases x1 <;> simp only [Exits] at hx1; exact hq.elim
  | goto i => cases x1 <;> simp only [Exits] at hx1; exact hq.elim
  | outgrown => cases x1 <;> simp only [Exits] at hx1
theorem SWP.rec {id : Nat} {o : Oper} {l : List Oper} {d : Tmp} {y : Code} {px : Option V} {R : Option V → Heap → Prop} {s' : St} (hrun : ∀ ρ w, (execOp ρ o).run P w = .ok .recover w) (hd : o.dst = some d) (hdn : d < n) (hg : o.guard = none)
    (hm : movesSt l (s.put (some d) (recV px)) = some s') (hok : movesOk n l = true) (hrf : hasRF y = false) (h : AWP P n y s' (DQ R)) : SWP P n (.seq (.region id (o :: l).toArray false) y) s px R := by
  intro fo m a w w0 m0 fn c0 cs hD hr hnm hres g hmd st0
  refine wpSIn_seq (wpSIn_region ?_)
  have hops : ∀ j, l[j]? = (o :: l).toArray[1 + j]? := fun j => by
    rw [show 1 + j = j + 1 by omega]; simp
  have hrange : List.range (o :: l).toArray.size = 0 :: List.range' 1 l.length := by
    simp [List.range_eq_range', List.range'_succ]
  rw [hrange]
  simp only [wpOpsSIn, List.getElem?_toArray, List.getElem?_cons_zero]
  refine ⟨fun _ _ => trivial, ?_⟩
  rw [if_pos (by simp [Region.wanted, hg]), hrun]
  simp only [hd]
  have fin : ∀ (u' : FrameMode) (v : Value), RelV w (OO fo m) m v (recV px) → RecM c0.mode u' px →
      wpOpsSIn Fence.wide 0 P (o :: l).toArray (Exit.thenS (y.wpSIn Fence.wide 0 P (bodyPostS P fn c0 cs (DPost fo m0 w0 R))) (bodyPostS P fn c0 cs (DPost fo m0 w0 R))) (List.range' 1 l.length) (a.put (some d) v) ({ c0 with mode := u' } :: cs) w := by
    intro u' v hv hrec
    refine moves_S l 1 _ s' _ hops hm hok (g.put (dst := some d) (fun d' e => by obtain rfl := Option.some.inj e; exact hdn) hv) (fun a' g' => ?_)
    exact SWP.rest hD hr hnm hres g' hrec st0 hrf h
  cases px with
  | none =>
    have hmode : c0.mode = .returning := by
      unfold ModeR at hmd
      split at hmd
      · rename_i e _; exact e
      · rename_i e; cases e
      · exact hmd.elim
    have hn : recoverD (c0 :: cs) = none := by simp [recoverD, hmode]
    rw [hn]
    have := fin .returning .nilIface (.d _ _ (.v _ rfl)) ⟨hmode, rfl⟩
    rw [show ({ c0 with mode := .returning } : Frame) = c0 by rw [← hmode]] at this
    exact this
  | some x =>
    unfold ModeR at hmd
    split at hmd
    · rename_i e; cases e
    · rename_i ch x' hmode e
      obtain rfl := Option.some.inj e
      obtain ⟨v, older, rfl, ho, hv⟩ := hmd
      have hn : recoverD (c0 :: cs) = some (v, { c0 with mode := .panicking ({ v := v, recovered := true } :: older) } :: cs) := by simp [recoverD, hmode]
      rw [hn]
      exact fin _ v hv ⟨v, older, hmode, rfl, ho⟩
    · exact hmd.elim
theorem DCalls.run {f : FuncId} {args : List V} {L : Heap} {px : Option V} {R : Option V → Heap → Prop} {fn : Func} {c : Code} (hf : P.funcs[f]? = some fn) (hb : fn.body = some c) (hn : args.length ≤ fn.ntmps) (hres : fn.results.toList = [])
    (h : SWP P fn.ntmps c ⟨argFrame 0 args, L⟩ px R) : DCalls P f args L px R := by
  intro fo m w xs u hi hx hu
  refine callsDIn_of_wpSIn hf hb trivial (fun c0 cs hc0 => ?_)
  subst hc0
  have hsz : (xs ++ Array.replicate (fn.ntmps - xs.size) undef).size = fn.ntmps := by
    have := hx.1
    simp; omega
  let fo' : FO := ⟨fo.f, [], none, true⟩
  have g : G fo' fn.ntmps m ⟨argFrame 0 args, L⟩ { tmps := xs ++ Array.replicate (fn.ntmps - xs.size) undef, defers := [] } w := by
    refine ⟨hsz, ?_, ⟨hi.nodup, hi.dom, hi.apart, hi.others, hi.folt, hi.holds, hi.glob⟩, rfl⟩
    intro t y hy
    obtain ⟨h1, h2, h3⟩ := mem_argFrame hy
    simp only [Nat.sub_zero, Nat.zero_add] at h2 h3
    refine ⟨by omega, ?_⟩
    have hlt : t < xs.size := by rw [hx.1]; exact h3
    have : (xs ++ Array.replicate (fn.ntmps - xs.size) undef).getD t undef = xs[t] := by
      simp [Array.getD, hlt]
      omega
    rw [this]
    exact hx.2 t _ y (Array.getElem?_eq_getElem hlt) h2
  have hE : DPost fo' m w R = DPost fo m w R := by
    funext e u' w'
    refine propext ⟨?_, ?_⟩
    · rintro ⟨m', r, L', h1, h2, h3, h4⟩
      exact ⟨m', r, L', h1, h2, ⟨h3.nodup, h3.dom, h3.apart, h3.others, h3.folt, h3.holds, h3.glob⟩, h4⟩
    · rintro ⟨m', r, L', h1, h2, h3, h4⟩
      exact ⟨m', r, L', h1, h2, ⟨h3.nodup, h3.dom, h3.apart, h3.others, h3.folt, h3.holds, h3.glob⟩, h4⟩
  rw [← hE]
  exact h fo' m _ w w m fn c0 cs rfl rfl rfl hres g hu (Step.refl w _)
end
end Go.Ab

namespace Go.Ab
section
variable {P : Program} {n : Nat} {s : St} {Q : AX → St → Prop}
def dcall (f : FuncId) (hs : List (Nat × Nat)) : Deferred := ⟨.fn (.func f) (hs.map fun p => Value.pointer (some ⟨p.2, 0, none⟩)).toArray, #[]⟩
def BWP (P : Program) (n : Nat) (c : Code) (s : St) (Q : AX → St → Prop) (QD : FuncId → List (Nat × Nat) → AX → St → Prop) : Prop :=
  ∀ (fo : FO) m a w, fo.r = none → fo.D = [] → fo.nm = true → G fo n m s a w →
    c.wpIn Fence.wide 0 P (fun e a' w' => Post fo n m w Q e a' w' ∨ ∃ f hs, enters P f = true ∧ Post ⟨fo.f, [dcall f hs], none, true⟩ n m w (QD f hs) e a' w') a w
variable {QD : FuncId → List (Nat × Nat) → AX → St → Prop}
theorem BWP.seqA {x y : Code} (hrf : hasRF x = false) (h : AWP P n x s (AX.then (fun s' => BWP P n y s' Q QD) Q)) : BWP P n (.seq x y) s Q QD := by
  intro fo m a w hr hD hnm g
  refine wpIn_seq ?_
  have h1 := h fo m a w (fun e => by rw [hrf] at e; cases e) g
  rw [hr] at h1
  refine Code.wpIn_mono (F := Fence.wide) ?_ h1
  rintro e a1 w1 ⟨ms, m1, x1, s1, hmk, hq, g1, hx1, st⟩
  obtain rfl := hmk.1.2 hnm
  have gg := g1
  rw [FO.mark_nil] at gg
  cases e with
  | normal =>
    cases x1 <;> simp only [Exits] at hx1
    refine Code.wpIn_mono (F := Fence.wide) ?_ (hq fo m1 a1 w1 hr hD hnm gg)
    rintro e2 a2 w2 (h2 | ⟨f, hs, he, h2⟩)
    · exact .inl (Post.step st h2)
    · exact .inr ⟨f, hs, he, Post.step st h2⟩
  | exit i => cases x1 <;> simp only [Exits] at hx1; exact .inl ⟨[], m1, _, s1, hmk, hq, g1, hx1, st⟩
  | goto i => cases x1 <;> simp only [Exits] at hx1; exact .inl ⟨[], m1, _, s1, hmk, hq, g1, hx1, st⟩
  | ret => cases x1 <;> simp only [Exits] at hx1; exact .inl ⟨[], m1, _, s1, hmk, hq, g1, hx1, st⟩
  | panic ch => cases x1 <;> simp only [Exits] at hx1; exact .inl ⟨[], m1, _, s1, hmk, hq, g1, hx1, st⟩
  | outgrown => cases x1 <;> simp only [Exits] at hx1
def capsAt (L : Heap) : List V → List (Nat × Nat) → Prop
  | [], [] => True
  | x :: xs, p :: ps => x = .bp p.1 0 ∧ p ∈ labs L ∧ capsAt L xs ps
  | _, _ => False
theorem capsAt_vals {fo : FO} {m : Nat → Option Value} {L : Heap} {w : World} (hi : Inv fo m L w) : ∀ (xs : List V) (ps : List (Nat × Nat)) (vs : List Value), capsAt L xs ps → vs.length = xs.length → (∀ (j : Nat) v x, vs[j]? = some v → xs[j]? = some x → RelV w (OO fo m) m v x) →
    vs = ps.map fun p => Value.pointer (some ⟨p.2, 0, none⟩)
  | [], [], vs, _, hl, _ => by simpa using List.eq_nil_of_length_eq_zero hl
  | x :: xs, p :: ps, v :: vs, ⟨hx, hp, ht⟩, hl, hr => by
    have h0 := hr 0 v x rfl rfl
    subst hx
    obtain ⟨b, hb, rfl⟩ := bp_inv h0
    obtain ⟨ty, cs, hm⟩ := labs_mem (h := p.1) (b := p.2) hp
    obtain ⟨z, hz, bb, hbb, cur, rfl, _⟩ := hi.holds _ _ hm
    rw [hz] at hb
    simp only [Option.some.injEq, Value.pointer.injEq, Addr.mk.injEq] at hb
    obtain rfl : bb = p.2 := by omega
    obtain rfl := hb.1
    rw [List.map_cons, ← capsAt_vals hi xs ps vs ht (by simpa using hl) (fun j v x h1 h2 => hr (j + 1) v x (by simpa using h1) (by simpa using h2))]
  | [], _ :: _, _, h, _, _ => h.elim
  | _ :: _, [], _, h, _, _ => h.elim
  | _ :: _, _ :: _, [], _, hl, _ => by simp at hl
theorem BWP.defer {id : Nat} {o1 o2 : Oper} {t : Tmp} {f : FuncId} {cops : Array Operand} {hs : List (Nat × Nat)} {y : Code} {c : Call} (h1 : o1.op = .makeFunc (.func f) #[] cops) (hd1 : o1.dst = some t) (htn : t < n) (hg1 : o1.guard = none)
    (h2 : o2.op = .defer c) (hc : c.callee = .value (.tmp t)) (hca : c.args = #[]) (hd2 : o2.dst = none) (hg2 : o2.guard = none) (hcap : capsAt s.L (cops.toList.map s.ev) hs) (he : enters P f = true) (hrf : hasRF y = false)
    (h : AWP P n y (s.put (some t) (.clo (.func f) [] (cops.toList.map s.ev))) (QD f hs)) : BWP P n (.seq (.region id #[o1, o2] false) y) s Q QD := by
  intro fo m a w hr hD hnm g
  refine wpIn_seq (wpIn_region_list ?_)
  have hvals : (cops.toList.map a.eval) = hs.map fun p => Value.pointer (some ⟨p.2, 0, none⟩) := by
    refine capsAt_vals g.inv _ _ _ hcap (by simp) (fun j v x hv hx => ?_)
    simp only [List.getElem?_map, Option.map_eq_some_iff] at hv hx
    obtain ⟨z, hz, rfl⟩ := hv
    obtain ⟨z', hz', rfl⟩ := hx
    rw [hz] at hz'
    obtain rfl := Option.some.inj hz'
    exact eval_rel g z
  have hrel : RelV w (OO fo m) m (.func (.func f) #[] (cops.map a.eval)) (.clo (.func f) [] (cops.toList.map s.ev)) := by
    refine .clo _ _ _ _ _ rfl (by simp) (by simp) (fun j x y hx hy => ?_)
    have hx' : (cops.toList.map a.eval)[j]? = some x := by
      rw [← Array.getElem?_toList, Array.toList_map] at hx
      exact hx
    simp only [List.getElem?_map, Option.map_eq_some_iff] at hx' hy
    obtain ⟨z, hz, rfl⟩ := hx'
    obtain ⟨z', hz', rfl⟩ := hy
    rw [hz] at hz'
    obtain rfl := Option.some.inj hz'
    exact eval_rel g z
  have g1 := g.put (dst := some t) (fun d e => by obtain rfl := Option.some.inj e; exact htn) hrel
  have ht : (a.put (some t) (.func (.func f) #[] (cops.map a.eval))).eval (.tmp t) = .func (.func f) #[] (cops.map a.eval) := by
    have := g.size
    simp [Act.eval, Act.put, Array.getD, this, htn]
  have hrun1 : (execOp a.eval o1).run P w = .ok (.value (.func (.func f) #[] (cops.map a.eval))) w := by simp [execOp, h1, Instr.makeFunc]
  unfold wpListIn
  rw [if_pos (by simp [Region.wanted, hg1])]
  refine ⟨fun _ _ => trivial, ?_⟩
  show Oper.uponIn Fence.wide 0 P o1 a _ _ ((o1.semAt none a.eval).run P w)
  rw [Oper.semAt_none, hrun1, Oper.uponIn_value, hd1]
  unfold wpListIn
  rw [if_pos (by simp [Region.wanted, hg2])]
  refine ⟨fun _ _ => trivial, ?_⟩
  show Oper.uponIn Fence.wide 0 P o2 _ _ _ ((o2.semAt none _).run P w)
  have hrun2 : (execOp (a.put (some t) (.func (.func f) #[] (cops.map a.eval))).eval o2).run P w = .ok (.defer (dcall f hs)) w := by
    have : (cops.map a.eval) = (hs.map fun p => Value.pointer (some ⟨p.2, 0, none⟩)).toArray := by
      rw [← hvals, ← Array.toList_map]
    simp only [execOp, h2, resolve, hc, hca, ht, Deferred.ofValue, Sem.run_bind, Sem.run_pure, Result.andThen_ok]
    simp [dcall, this]
  rw [Oper.semAt_none, hrun2, Oper.uponIn_defer, hd2]
  unfold wpListIn
  let fo' : FO := ⟨fo.f, [dcall f hs], none, true⟩
  have g2 : G fo' n m (s.put (some t) (.clo (.func f) [] (cops.toList.map s.ev))) { a.put (some t) (.func (.func f) #[] (cops.map a.eval)) with defers := dcall f hs :: (a.put (some t) (.func (.func f) #[] (cops.map a.eval))).defers } w := by
    refine ⟨g1.size, g1.fr, ⟨g1.inv.nodup, g1.inv.dom, g1.inv.apart, g1.inv.others, g1.inv.folt, g1.inv.holds, g1.inv.glob⟩, ?_⟩
    have := g1.defers
    rw [hD] at this
    simp [fo', this]
  refine Code.wpIn_mono (F := Fence.wide) ?_ (h fo' m _ w (fun e => by rw [hrf] at e; cases e) g2)
  intro e a' w' hp
  exact .inr ⟨f, hs, he, hp⟩
end
end Go.Ab

namespace Go.Ab
section
variable {P : Program} {n : Nat} {s : St} {Q : AX → St → Prop}
def lfr (s : St) : List (Nat × V) := s.fr.filter fun p => V.on ((labs s.L).map (·.1)) p.2
def Back (P : Program) (rs : List ResultVar) (R : AE → Heap → Prop) (s : St) (r : Option V) (L' : Heap) : Prop :=
  labs L' = labs s.L ∧ match r with
    | none => FPost P rs R .ret ⟨lfr s, L'⟩
    | some y => R (.pan y) L'
def LvD (P : Program) (rs : List ResultVar) (R : AE → Heap → Prop) (f : FuncId) (hs : List (Nat × Nat)) (x : AX) (s : St) : Prop :=
  match x with
  | .normal | .ret => (∀ p ∈ hs, p ∈ labs s.L) ∧ DCalls P f (hs.map fun p => .bp p.1 0) s.L none (Back P rs R s)
  | .pan v => (∀ p ∈ hs, p ∈ labs s.L) ∧ DCalls P f (hs.map fun p => .bp p.1 0) s.L (some v) (Back P rs R s)
  | _ => False
theorem leave_dcall {fo : FO} {m m0 : Nat → Option Value} {a : Act} {w w0 : World} {fn : Func} {R : AE → Heap → Prop} {f : FuncId} {hs : List (Nat × Nat)} {px : Option V} {u : FrameMode} (hu : u ≠ .run) (hnr : fo.nm = true)
    (hh : ∀ p ∈ hs, p ∈ labs s.L) (h : DCalls P f (hs.map fun p => .bp p.1 0) s.L px (Back P fn.results.toList R s)) (he : enters P f = true) (g : G fo n m s a w) (hm : ModeR w (OO fo m) m u px) (st0 : Step w0 (own m0) w (own m)) :
    LeavesIn Fence.wide 0 P fn a.tmps (CPost fo m0 w0 R) [dcall f hs] u w := by
  have hargs : RelVs w (OO fo m) m (hs.map fun p => Value.pointer (some ⟨p.2, 0, none⟩)).toArray (hs.map fun p => .bp p.1 0) := by
    refine ⟨by simp, fun j x y hx hy => ?_⟩
    simp only [List.getElem?_toArray, List.getElem?_map, Option.map_eq_some_iff] at hx hy
    obtain ⟨p, hp, rfl⟩ := hx
    obtain ⟨p', hp', rfl⟩ := hy
    rw [hp] at hp'
    obtain rfl := Option.some.inj hp'
    obtain ⟨ty, cs, hmem⟩ := labs_mem (h := p.1) (b := p.2) (hh p (List.mem_of_getElem? hp))
    obtain ⟨z, hz, bb, hbb, cur, rfl, _⟩ := g.inv.holds _ _ hmem
    obtain rfl : bb = p.2 := by omega
    exact .bp _ _ _ hz
  refine leavesIn_cons hu (fun h => by simp [Fence.wide] at h) (f := f) (args := (hs.map fun p => Value.pointer (some ⟨p.2, 0, none⟩)).toArray) (by simpa [invoke] using run_callFunc (P := P) he _ w) (fun _ _ => trivial) ?_
  refine (h fo m w _ u g.inv hargs hm).mono ?_
  rintro e u' w' ⟨m', r, L', ⟨hlab, hR⟩, hends, hi', st⟩
  have hsame := labs_same g.inv hi' hlab
  have g' : G fo n m' ⟨lfr s, L'⟩ a w' := by
    refine ⟨g.size, fun t y hy => ?_, hi', g.defers⟩
    obtain ⟨h1, h2⟩ := List.mem_filter.1 hy
    obtain ⟨q1, q2⟩ := g.fr t y h1
    exact ⟨q1, (q2.on hsame h2).mono (Step.keep (fo := fo.f) st) (Step.sub st) (fun _ _ e => e)⟩
  have fin : ∀ u'' : FrameMode, ModeR w' (OO fo m') m' u'' r → LeavesIn Fence.wide 0 P fn a.tmps (CPost fo m0 w0 R) [] u'' w' := by
    intro u'' hmd
    unfold ModeR at hmd
    split at hmd
    · simp only [FPost] at hR
      split at hR
      · rename_i xs c hr
        obtain ⟨v, k1, k2⟩ := results_sound g' hr hR.1
        exact ⟨v, k1, m', _, _, hR.2, k2, hi', st0.trans st⟩
      · exact hR.elim
    · rename_i ch y
      exact ⟨m', _, _, hR, hmd, hi', st0.trans st⟩
    · exact hmd.elim
  cases e with
  | returned v => exact fin _ hends
  | panicked ch => exact fin _ hends
  | outgrown => exact hends.elim
theorem ACalls.of_BWP {f : FuncId} {fn : Func} {c : Code} {args : List V} {L : Heap} {R : AE → Heap → Prop} (hf : P.funcs[f]? = some fn) (hb : fn.body = some c) (hn : args.length ≤ fn.ntmps)
    (h : BWP P fn.ntmps c ⟨argFrame 0 args, L⟩ (FPost P fn.results.toList R) (LvD P fn.results.toList R)) : ACalls P f args L R := by
  intro fo m w xs hi hx
  let fo' : FO := ⟨fo.f, [], none, true⟩
  have hcp : ∀ e w', CPost fo' m w R e w' → CPost fo m w R e w' := fun _ _ ⟨m', r, L', h1, h2, h3, h4⟩ => ⟨m', r, L', h1, h2, ⟨h3.nodup, h3.dom, h3.apart, h3.others, h3.folt, h3.holds, h3.glob⟩, h4⟩
  refine Calls.mono ?_ hcp
  refine callsIn_wide.1 (callsIn_of_wp_defers (n := 0) hf hb trivial ?_)
  have hsz : (xs ++ Array.replicate (fn.ntmps - xs.size) undef).size = fn.ntmps := by
    have := hx.1
    simp; omega
  have g : G fo' fn.ntmps m ⟨argFrame 0 args, L⟩ { tmps := xs ++ Array.replicate (fn.ntmps - xs.size) undef, defers := [] } w := by
    refine ⟨hsz, ?_, ⟨hi.nodup, hi.dom, hi.apart, hi.others, hi.folt, hi.holds, hi.glob⟩, rfl⟩
    intro t y hy
    obtain ⟨h1, h2, h3⟩ := mem_argFrame hy
    simp only [Nat.sub_zero, Nat.zero_add] at h2 h3
    refine ⟨by omega, ?_⟩
    have hlt : t < xs.size := by rw [hx.1]; exact h3
    have : (xs ++ Array.replicate (fn.ntmps - xs.size) undef).getD t undef = xs[t] := by
      simp [Array.getD, hlt]
      omega
    rw [this]
    exact hx.2 t _ y (Array.getElem?_eq_getElem hlt) h2
  refine Code.wpIn_mono (F := Fence.wide) ?_ (h fo' m _ w rfl rfl rfl g)
  rintro e a' w' (⟨ms, m', x, s', hmk, hq, g', hx', st⟩ | ⟨f2, hs, he2, ms, m', x, s', hmk, hq, g', hx', st⟩)
  · obtain rfl := hmk.1.2 rfl
    rw [FO.mark_nil] at g' hx'
    have hdef : a'.defers = [] := g'.defers
    have retn : FPost P fn.results.toList R .ret s' → LeavesIn Fence.wide 0 P fn a'.tmps (CPost fo' m w R) a'.defers .returning w' := by
      intro hq
      rw [hdef]
      simp only [FPost] at hq
      split at hq
      · rename_i ys c' hr
        obtain ⟨v, k1, k2⟩ := results_sound g' hr hq.1
        exact ⟨v, k1, m', _, _, hq.2, k2, g'.inv, st⟩
      · exact hq.elim
    cases e with
    | normal => cases x <;> simp only [Exits] at hx'; exact retn hq
    | ret => cases x <;> simp only [Exits] at hx'; exact retn hq
    | panic ch =>
      cases x <;> simp only [Exits] at hx'
      simp only [FPost] at hq
      show LeavesIn Fence.wide 0 P fn a'.tmps (CPost fo' m w R) a'.defers (.panicking ch) w'
      rw [hdef]
      exact ⟨m', _, _, hq, hx', g'.inv, st⟩
    | exit i => cases x <;> simp only [Exits] at hx'; exact hq.elim
    | goto i => cases x <;> simp only [Exits] at hx'; exact hq.elim
    | outgrown => cases x <;> simp only [Exits] at hx'
  · obtain rfl := hmk.1.2 rfl
    rw [FO.mark_nil] at g' hx'
    have hdef : a'.defers = [dcall f2 hs] := g'.defers
    have g2 : G fo' fn.ntmps m' s' { a' with defers := [] } w' := ⟨g'.size, g'.fr, ⟨g'.inv.nodup, g'.inv.dom, g'.inv.apart, g'.inv.others, g'.inv.folt, g'.inv.holds, g'.inv.glob⟩, rfl⟩
    cases e with
    | normal =>
      cases x <;> simp only [Exits] at hx'
      show LeavesIn Fence.wide 0 P fn a'.tmps (CPost fo' m w R) a'.defers .returning w'
      rw [hdef]
      exact leave_dcall (a := { a' with defers := [] }) (by simp) rfl hq.1 hq.2 he2 g2 trivial st
    | ret =>
      cases x <;> simp only [Exits] at hx'
      show LeavesIn Fence.wide 0 P fn a'.tmps (CPost fo' m w R) a'.defers .returning w'
      rw [hdef]
      exact leave_dcall (a := { a' with defers := [] }) (by simp) rfl hq.1 hq.2 he2 g2 trivial st
    | panic ch =>
      cases x <;> simp only [Exits] at hx'
      show LeavesIn Fence.wide 0 P fn a'.tmps (CPost fo' m w R) a'.defers (.panicking ch) w'
      rw [hdef]
      exact leave_dcall (a := { a' with defers := [] }) (by simp) rfl hq.1 hq.2 he2 g2 hx' st
    | exit i => cases x <;> simp only [Exits] at hx'; exact hq.elim
    | goto i => cases x <;> simp only [Exits] at hx'; exact hq.elim
    | outgrown => cases x <;> simp only [Exits] at hx'
end
end Go.Ab

namespace Go.Ab
section
variable {P : Program} {n : Nat} {s : St} {Q : AX → St → Prop}
theorem frame {L L1 L2 : Heap} {fo : FO} {m : Nat → Option Value} {w : World} (hi : Inv fo m L w) (hL : L.Perm (L1 ++ L2)) (hon : L1.all (fun p => Res.on (keys L1) p.2) = true)
    (hL2 : ∀ p ∈ L2, Res.on (keys L2 ++ (L1.filterMap fun p => match p.2 with | .box (_ + 1) _ _ => some p.1 | _ => none)) p.2 = true) :
    ∃ (fo1 : FO) (m1 : Nat → Option Value), (∀ b, OO fo1 m1 b ↔ OO fo m b) ∧ (∀ h x, h ∈ keys L1 → m h = some x → m1 h = some x) ∧ Inv fo1 m1 L1 w ∧
      ∀ (w' : World) (m1' : Nat → Option Value) (L1' : Heap), Inv fo1 m1' L1' w' → Step w (own m1) w' (own m1') → (∀ k ∈ keys L1', k ∉ keys L2) → (∀ k b ty cs, (k, Res.box (b + 1) ty cs) ∈ L1 → ∃ ty' cs', (k, Res.box (b + 1) ty' cs') ∈ L1') →
        ∃ mm : Nat → Option Value, Inv fo mm (L1' ++ L2) w' ∧ Step w (own m) w' (own mm) ∧ (∀ h y, m1' h = some y → mm h = some y) ∧ (∀ b, OO fo mm b ↔ OO fo1 m1' b) := by
  classical
  have hkeys : ∀ x, x ∈ keys L ↔ x ∈ keys L1 ∨ x ∈ keys L2 := by
    intro x
    have : (keys L).Perm (keys (L1 ++ L2)) := hL.map _
    rw [this.mem_iff]
    simp [keys]
  have hnd : (keys L1).Nodup ∧ (keys L2).Nodup ∧ ∀ x, x ∈ keys L1 → x ∉ keys L2 := by
    have hp : (keys L).Perm (keys L1 ++ keys L2) := by simpa [keys] using hL.map (·.1)
    have := hp.nodup_iff.1 hi.nodup
    rw [List.nodup_append] at this
    exact ⟨this.1, this.2.1, fun x h1 h2 => this.2.2 x h1 x h2 rfl⟩
  let m1 : Nat → Option Value := fun h => if h ∈ keys L1 then m h else none
  let m2 : Nat → Option Value := fun h => if h ∈ keys L2 then m h else none
  have hm1 : ∀ h x, m1 h = some x → m h = some x ∧ h ∈ keys L1 := by
    intro h x hx
    by_cases hh : h ∈ keys L1
    · simp only [m1, if_pos hh] at hx; exact ⟨hx, hh⟩
    · simp only [m1, if_neg hh] at hx; cases hx
  have hm2 : ∀ h x, m2 h = some x → m h = some x ∧ h ∈ keys L2 := by
    intro h x hx
    by_cases hh : h ∈ keys L2
    · simp only [m2, if_pos hh] at hx; exact ⟨hx, hh⟩
    · simp only [m2, if_neg hh] at hx; cases hx
  have hm1' : ∀ h x, h ∈ keys L1 → m h = some x → m1 h = some x := fun h x hh hx => by simp only [m1, if_pos hh]; exact hx
  have hm2' : ∀ h x, h ∈ keys L2 → m h = some x → m2 h = some x := fun h x hh hx => by simp only [m2, if_pos hh]; exact hx
  let fo1 : FO := fun b => fo b ∨ own m2 b
  have hown : ∀ b, own m b ↔ own m1 b ∨ own m2 b := by
    intro b
    constructor
    · rintro ⟨h, x, hx, hb⟩
      rcases (hkeys h).1 (hi.dom h x hx) with hh | hh
      · exact .inl ⟨h, x, hm1' h x hh hx, hb⟩
      · exact .inr ⟨h, x, hm2' h x hh hx, hb⟩
    · rintro (⟨h, x, hx, hb⟩ | ⟨h, x, hx, hb⟩)
      · exact ⟨h, x, (hm1 h x hx).1, hb⟩
      · exact ⟨h, x, (hm2 h x hx).1, hb⟩
  have hOO : ∀ b, OO fo1 m1 b ↔ OO fo m b := by
    intro b
    unfold OO
    rw [hown b]
    constructor
    · rintro (h | h | h)
      · exact .inl (.inl h)
      · exact .inr h
      · exact .inl (.inr h)
    · rintro ((h | h) | h)
      · exact .inl h
      · exact .inr (.inr h)
      · exact .inr (.inl h)
  have hi1 : Inv fo1 m1 L1 w := by
    refine ⟨hnd.1, fun h x hx => (hm1 h x hx).2, ?_, ?_, ?_, ?_, hi.glob.mono (Keep.refl w _) (fun b _ hb => (hOO b).1 hb)⟩
    · intro h h' x x' b hx hx' hb hb'
      exact hi.apart h h' x x' b (hm1 h x hx).1 (hm1 h' x' hx').1 hb hb'
    · rintro h x b hx hb (hf | ⟨h', x', hx', hb'⟩)
      · exact hi.others h x b (hm1 h x hx).1 hb hf
      · have := hi.apart h h' x x' b (hm1 h x hx).1 (hm2 h' x' hx').1 hb hb'
        subst this
        exact hnd.2.2 h (hm1 h x hx).2 (hm2 h x' hx').2
    · rintro b (hf | ⟨h', x', hx', hb'⟩)
      · exact hi.folt b hf
      · exact hi.lt (hm2 h' x' hx').1 hb'
    · intro h r hr
      obtain ⟨x, hx, hh⟩ := hi.holds h r (hL.mem_iff.2 (List.mem_append_left _ hr))
      have hk : h ∈ keys L1 := List.mem_map.2 ⟨_, hr, rfl⟩
      rw [List.all_eq_true] at hon
      exact ⟨x, hm1' h x hk hx, (hh.on hm1' (hon _ hr)).mono (fun _ _ => rfl) (Keep.refl w _) (fun b _ hb => (hOO b).1 hb) (fun _ _ e => e)⟩
  refine ⟨fo1, m1, hOO, hm1', hi1, ?_⟩
  intro w' m1' L1' hi' st' hdis hbox
  let mm : Nat → Option Value := fun h => if h ∈ keys L1' then m1' h else m2 h
  have hmm1 : ∀ h y, m1' h = some y → mm h = some y := fun h y hy => by simp only [mm, if_pos (hi'.dom h y hy)]; exact hy
  have hmm2 : ∀ h y, m2 h = some y → mm h = some y := by
    intro h y hy
    have : h ∉ keys L1' := fun hh => hdis h hh (hm2 h y hy).2
    simp only [mm, if_neg this]; exact hy
  have hmmi : ∀ h y, mm h = some y → (m1' h = some y ∧ h ∈ keys L1') ∨ (m2 h = some y ∧ h ∉ keys L1') := by
    intro h y hy
    by_cases hh : h ∈ keys L1'
    · simp only [mm, if_pos hh] at hy; exact .inl ⟨hy, hh⟩
    · simp only [mm, if_neg hh] at hy; exact .inr ⟨hy, hh⟩
  have hownm : ∀ b, own mm b ↔ own m1' b ∨ own m2 b := by
    intro b
    constructor
    · rintro ⟨h, y, hy, hb⟩
      rcases hmmi h y hy with ⟨hy, _⟩ | ⟨hy, _⟩
      · exact .inl ⟨h, y, hy, hb⟩
      · exact .inr ⟨h, y, hy, hb⟩
    · rintro (⟨h, y, hy, hb⟩ | ⟨h, y, hy, hb⟩)
      · exact ⟨h, y, hmm1 h y hy, hb⟩
      · exact ⟨h, y, hmm2 h y hy, hb⟩
  have hOOm : ∀ b, OO fo mm b ↔ OO fo1 m1' b := by
    intro b
    unfold OO
    rw [hownm b]
    constructor
    · rintro ((h | h) | h)
      · exact .inl h
      · exact .inr (.inr h)
      · exact .inr (.inl h)
    · rintro (h | h | h)
      · exact .inl (.inl h)
      · exact .inr h
      · exact .inl (.inr h)
  have hO' : ∀ b, b < w.heap.size → OO fo mm b → OO fo m b := by
    intro b hb ho'
    rcases (hOOm b).1 ho' with h | h | h
    · exact .inl ((hown b).2 (.inl (st'.owned b hb h)))
    · exact .inr h
    · exact .inl ((hown b).2 (.inr h))
  have hkeep : Keep w (OO fo m) w' := ⟨st'.size, fun b hb hno => st'.block b hb (fun h => hno (.inl ((hown b).2 (.inl h))))⟩
  have hboxm : ∀ h y, h ∈ keys L2 ++ (L1.filterMap fun p => match p.2 with | .box (_ + 1) _ _ => some p.1 | _ => none) → m h = some y → mm h = some y := by
    intro h y hh hy
    rcases List.mem_append.1 hh with hh | hh
    · exact hmm2 h y (hm2' h y hh hy)
    · obtain ⟨p, hp, hpe⟩ := List.mem_filterMap.1 hh
      obtain ⟨q, r⟩ := p
      cases r with
      | row ty k xs => simp at hpe
      | env A => simp at hpe
      | mp es => simp at hpe
      | box b0 ty cs =>
        cases b0 with
        | zero => simp at hpe
        | succ b =>
        simp only [Option.some.injEq] at hpe
        subst hpe
        obtain ⟨ty', cs', hb'⟩ := hbox q b ty cs hp
        obtain ⟨z, hz, hzh⟩ := hi'.holds q _ hb'
        obtain ⟨bb1, hb1, cur', e1, _⟩ := hzh
        obtain ⟨u, hu, huh⟩ := hi1.holds q _ hp
        obtain ⟨bb2, hb2, cur, e2, _⟩ := huh
        obtain rfl : bb1 = b := by omega
        obtain rfl : bb2 = bb1 := by omega
        have := (hm1 q u hu).1
        rw [hy] at this
        obtain rfl := Option.some.inj this
        rw [e2, ← e1]
        exact hmm1 q z hz
  have hinv : Inv fo mm (L1' ++ L2) w' := by
    refine ⟨?_, ?_, ?_, ?_, fun b hf => Nat.lt_of_lt_of_le (hi.folt b hf) st'.size, ?_, hi.glob.mono hkeep hO'⟩
    · show (keys (L1' ++ L2)).Nodup
      rw [show keys (L1' ++ L2) = keys L1' ++ keys L2 by simp [keys], List.nodup_append]
      exact ⟨hi'.nodup, hnd.2.1, fun x h1 y h2 e => hdis x h1 (by rw [e]; exact h2)⟩
    · intro h y hy
      show h ∈ keys (L1' ++ L2)
      rw [show keys (L1' ++ L2) = keys L1' ++ keys L2 by simp [keys]]
      rcases hmmi h y hy with ⟨_, hh⟩ | ⟨hy, _⟩
      · exact List.mem_append_left _ hh
      · exact List.mem_append_right _ (hm2 h y hy).2
    · intro h h' y y' b hy hy' hb hb'
      rcases hmmi h y hy with ⟨hy, _⟩ | ⟨hy, _⟩ <;> rcases hmmi h' y' hy' with ⟨hy', _⟩ | ⟨hy', _⟩
      · exact hi'.apart h h' y y' b hy hy' hb hb'
      · exact (hi'.others h y b hy hb (.inr ⟨h', y', hy', hb'⟩)).elim
      · exact (hi'.others h' y' b hy' hb' (.inr ⟨h, y, hy, hb⟩)).elim
      · exact hi.apart h h' y y' b (hm2 h y hy).1 (hm2 h' y' hy').1 hb hb'
    · intro h y b hy hb hf
      rcases hmmi h y hy with ⟨hy, _⟩ | ⟨hy, _⟩
      · exact hi'.others h y b hy hb (.inl hf)
      · exact hi.others h y b (hm2 h y hy).1 hb hf
    · intro h r hr
      rcases List.mem_append.1 hr with hr | hr
      · obtain ⟨z, hz, hzh⟩ := hi'.holds h r hr
        exact ⟨z, hmm1 h z hz, hzh.mono (fun _ _ => rfl) (Keep.refl w' _) (fun b _ hb => (hOOm b).1 hb) hmm1⟩
      · obtain ⟨z, hz, hzh⟩ := hi.holds h r (hL.mem_iff.2 (List.mem_append_right _ hr))
        have hk : h ∈ keys L2 := List.mem_map.2 ⟨_, hr, rfl⟩
        refine ⟨z, hmm2 h z (hm2' h z hk hz), (hzh.on hboxm (hL2 _ hr)).mono (fun b hb => ?_) hkeep hO' (fun _ _ e => e)⟩
        exact st'.block b (hi.lt hz hb) (fun ho1 => by
          obtain ⟨h', y', hy', hb'⟩ := ho1
          have := hi.apart h h' z y' b hz (hm1 h' y' hy').1 hb hb'
          subst this
          exact hnd.2.2 h (hm1 h y' hy').2 hk)
  have stt : Step w (own m) w' (own mm) := by
    refine ⟨st'.os, st'.tape, st'.output, st'.size, fun b hb hno => st'.block b hb (fun h => hno ((hown b).2 (.inl h))), fun b hb ho' => ?_⟩
    rcases (hownm b).1 ho' with h | h
    · exact (hown b).2 (.inl (st'.owned b hb h))
    · exact (hown b).2 (.inr h)
  exact ⟨mm, hinv, stt, hmm1, hOOm⟩
theorem DCalls.frame {f : FuncId} {args : List V} {L L1 L2 : Heap} {px : Option V} {R1 : Option V → Heap → Prop} (h : DCalls P f args L1 px R1) (hL : L.Perm (L1 ++ L2)) (ho : V.ons (keys L1) args = true) (hx : pxOn px = true) (hon : L1.all (fun p => Res.on (keys L1) p.2) = true)
    (hL2 : ∀ p ∈ L2, Res.on (keys L2 ++ (L1.filterMap fun p => match p.2 with | .box (_ + 1) _ _ => some p.1 | _ => none)) p.2 = true)
    (hstay : ∀ r L1', R1 r L1' → (∀ k ∈ keys L1', k ∉ keys L2) ∧ ∀ k b ty cs, (k, Res.box (b + 1) ty cs) ∈ L1 → ∃ ty' cs', (k, Res.box (b + 1) ty' cs') ∈ L1') :
    DCalls P f args L px (fun r L' => ∃ L1', R1 r L1' ∧ L' = L1' ++ L2) := by
  intro fo m w xs u hi hxs hu
  obtain ⟨fo1, m1, hOO, hm1', hi1, fin⟩ := Go.Ab.frame hi hL hon hL2
  have hxs1 : RelVs w (OO fo1 m1) m1 xs args := ⟨hxs.1, fun j v y hv hy => ((hxs.2 j v y hv hy).on hm1' (ons_mem ho y (List.mem_of_getElem? hy))).mono (Keep.refl w _) (fun b _ hb => (hOO b).1 hb) (fun _ _ e => e)⟩
  have hu1 : ModeR w (OO fo1 m1) m1 u px := by
    unfold ModeR at hu ⊢
    split at hu
    · trivial
    · obtain ⟨v, older, rfl, ho', hv⟩ := hu
      exact ⟨v, older, rfl, ho', (hv.on (ks := []) (m' := m1) (by simp) hx).mono (Keep.refl w _) (fun b _ hb => (hOO b).1 hb) (fun _ _ e => e)⟩
    · exact hu.elim
  refine (h fo1 m1 w xs u hi1 hxs1 hu1).mono ?_
  rintro e u' w' ⟨m1', r, L1', hR, hends, hi', st'⟩
  obtain ⟨hdis, hbox⟩ := hstay r L1' hR
  obtain ⟨mm, hinv, stt, hmm1, hOOm⟩ := fin w' m1' L1' hi' st' hdis hbox
  refine ⟨mm, r, _, ⟨L1', hR, rfl⟩, ?_, hinv, stt⟩
  have md : ∀ u'' : FrameMode, ModeR w' (OO fo1 m1') m1' u'' r → ModeR w' (OO fo mm) mm u'' r := by
    intro u'' hmd
    unfold ModeR at hmd ⊢
    split at hmd
    · trivial
    · obtain ⟨v, older, rfl, ho', hv⟩ := hmd
      exact ⟨v, older, rfl, ho', hv.mono (Keep.refl w' _) (fun b _ hb => (hOOm b).1 hb) hmm1⟩
    · exact hmd.elim
  cases e with
  | returned v => exact md _ hends
  | panicked ch => exact md _ hends
  | outgrown => exact hends.elim
def EDQ (hs : List Nat) (R : Option V → Heap → Prop) (x : AX) (s : St) : Prop :=
  match x with
  | .normal | .ret => (s.pick [] hs).on (keys (s.pick [] hs).L) = true ∧ R none (s.pick [] hs).L
  | .pan y => (s.pick [] hs).on (keys (s.pick [] hs).L) = true ∧ y.on [] = true ∧ R (some y) (s.pick [] hs).L
  | _ => False
theorem AWP.edq {c : Code} {hs : List Nat} {R : Option V → Heap → Prop} (hh : hs.Nodup) (h : AWP P n c s (EDQ hs R)) : AWP P n c s (DQ R) := by
  intro fo m a w hr g
  refine Code.wpIn_mono (fun e a' w' hp => ?_) (h fo m a w hr g)
  obtain ⟨ms, m', x, s', hmk, hq, g', he, st⟩ := hp
  cases x with
  | normal =>
    obtain ⟨m2, g2, st2⟩ := Wk.pick [] hs rfl hh hq.1 (fo.mark ms) m' a' w' g'
    refine ⟨ms, m2, .normal, _, hmk, hq.2, g2, ?_, st.trans st2⟩
    cases e <;> simp only [Exits] at he ⊢
  | ret =>
    obtain ⟨m2, g2, st2⟩ := Wk.pick [] hs rfl hh hq.1 (fo.mark ms) m' a' w' g'
    refine ⟨ms, m2, .ret, _, hmk, hq.2, g2, ?_, st.trans st2⟩
    cases e <;> simp only [Exits] at he ⊢
  | pan y =>
    obtain ⟨m2, g2, st2⟩ := Wk.pick [] hs rfl hh hq.1 (fo.mark ms) m' a' w' g'
    refine ⟨ms, m2, .pan y, _, hmk, hq.2.2, g2, ?_, st.trans st2⟩
    cases e <;> simp only [Exits] at he ⊢
    obtain ⟨v, older, rfl, ho', hv⟩ := he
    exact ⟨v, older, rfl, ho', (hv.on (ks := []) (m' := m2) (by simp) hq.2.1).mono (Step.keep (fo := (fo.mark ms).f) st2) (Step.sub st2) (fun _ _ e => e)⟩
  | exit i => exact hq.elim
  | goto i => exact hq.elim
attribute [simp] EDQ DQ
theorem AWP.ofK {c : Code} (h : codeK P n c s (kontK P n Q [])) : AWP P n c s Q := codeK_sound _ _ _ h
end
end Go.Ab

namespace Go.Ab
section
variable {P : Program} {n : Nat} {s : St} {Q : AX → St → Prop}
end
end Go.Ab

namespace Go.Ab
section
variable {P : Program} {n : Nat} {s : St} {Q : AX → St → Prop} {ops : Array Oper}
theorem AOps.slNil {o : Oper} {rest : List Oper} {x y : Operand} {t e ty : TypeId} {kc : Nat} {xs : List (List D)} (hop : o.op = .binOp .eql t x y ty) (ht : tyE P t = some (e, kc)) (hx : s.ev x = .d (.sl xs)) (hy : s.ev y = .d (.v (.slice none 0 0))) (hg : o.guard = none) (hd : ∀ d, o.dst = some d → d < n)
    (k : ∀ b : Bool, (b = true → xs = []) → AOps P n ops rest (s.put o.dst (.d (.v (.bool b)))) Q) : AOps P n ops (o :: rest) s Q := by
  intro fo m0 w0 m a w st g
  have hu : P.underlying t = some (.slice e) := by
    unfold tyE at ht
    split at ht
    · rename_i e' he
      obtain ⟨i, _, hi⟩ := Option.map_eq_some_iff.1 ht
      simp only [Prod.mk.injEq] at hi
      rw [he, hi.1]
    · cases ht
  have h1 := eval_rel g x
  rw [hx] at h1
  obtain ⟨ad, cap, hv, _, _, kk, b, off, f, ha, _⟩ := h1.d_inv.sl_inv
  have h2 := eval_rel g y
  rw [hy] at h2
  have hv2 := h2.v_inv
  unfold wpListIn
  rw [if_pos (by simp [Region.wanted, hg])]
  have hrun : (execOp a.eval o).run P w = .ok (.value (.bool ad.isNone)) w := by
    have := Lib.run_eql_slice_nil (P := P) w t e ad xs.length cap 0 0 hu
    simp [execOp, hop, hv, hv2, eqGuard, this]
  refine owp_val hrun (.inl rfl) ?_
  refine k ad.isNone (fun hb => ?_) fo m0 w0 m _ w st (g.put hd (.d _ _ (.v _ rfl)))
  by_cases h0 : 0 < xs.length
  · rw [(ha h0).1] at hb; cases hb
  · exact List.eq_nil_of_length_eq_zero (by omega)
theorem row_on (ks : List Nat) (ty k : Nat) (ys : List (List D)) : Res.on ks (.row ty k (dd ys)) = true := by
  simp
theorem ACalls.rowR {f : FuncId} {args : List V} {L : Heap} {ys : List (List D)} {ty : TypeId} {k : Nat} (h : Nat)
    (hyp : ACalls P f args L (fun r L' => (r = .ret (.d (.v (.slice none 0 0))) ∧ L' = [] ∧ ys = []) ∨ (∃ g, r = .ret (.rv g) ∧ L' = [(g, .row ty k (dd ys))]))) :
    ACalls P f args L (fun r L' => r = .ret (.rv h) ∧ L' = [(h, .row ty k (dd ys))]) := by
  intro fo m w xs hi hx
  refine (hyp fo m w xs hi hx).mono ?_
  rintro e w' ⟨m', r, L', hR, he, hi', st⟩
  rcases hR with ⟨rfl, rfl, rfl⟩ | ⟨g, rfl, rfl⟩
  · cases e with
    | returned v =>
      simp only [Ends] at he
      obtain rfl := he.v_inv
      have hnew := hi'.new (h := h) (by simp [keys]) (x := .slice none 0 0) (r := .row ty k []) (Nat.le_refl _) (fun _ _ => rfl) (by intro b hb; simp [blk, blk1] at hb) (.inl ⟨rfl, rfl⟩)
      refine ⟨_, _, _, ⟨rfl, rfl⟩, .rv h _ (mset_same _ _) rfl, by simpa using hnew, ⟨st.os, st.tape, st.output, st.size, st.block, fun b hb ho => st.owned b hb ?_⟩⟩
      obtain ⟨i, y, hy, hyb⟩ := ho
      by_cases hih : i = h
      · subst hih; rw [mset_same] at hy; obtain rfl := Option.some.inj hy; simp [blk, blk1] at hyb
      · rw [mset_ne _ hih] at hy; exact ⟨i, y, hy, hyb⟩
    | panicked c => simp only [Ends] at he
    | outgrown => simp only [Ends] at he
  · cases e with
    | returned v =>
      simp only [Ends] at he
      have hv : m' g = some v ∧ v.oneCell' = true := by
        cases he with
        | rv _ _ e e1 => exact ⟨e, e1⟩
      let m2 : Nat → Option Value := fun i => if i = h then some v else none
      have hm2 : ∀ i x, m2 i = some x → i = h ∧ x = v := by
        intro i x hx
        by_cases e : i = h
        · simp only [m2, if_pos e, Option.some.injEq] at hx; exact ⟨e, hx.symm⟩
        · simp only [m2, if_neg e] at hx; cases hx
      have hown : ∀ b, own m2 b → own m' b := by
        rintro b ⟨i, x, hx, hb⟩
        obtain ⟨rfl, rfl⟩ := hm2 i x hx
        exact ⟨g, _, hv.1, hb⟩
      have hO : ∀ b, OO fo m2 b → OO fo m' b := fun b hb => hb.imp (hown b) id
      refine ⟨m2, _, _, ⟨rfl, rfl⟩, .rv h v (by simp [m2]) hv.2, ⟨by simp [keys], ?_, ?_, ?_, hi'.folt, ?_, hi'.glob.mono (Keep.refl w' _) (fun b _ hb => hO b hb)⟩, ⟨st.os, st.tape, st.output, st.size, st.block, fun b hb ho => st.owned b hb (hown b ho)⟩⟩
      · intro i x hx; obtain ⟨rfl, _⟩ := hm2 i x hx; simp [keys]
      · intro i j x y b hx hy _ _; rw [(hm2 i x hx).1, (hm2 j y hy).1]
      · intro i x b hx hb
        obtain ⟨rfl, rfl⟩ := hm2 i x hx
        exact hi'.others g _ b hv.1 hb
      · intro i q hq
        simp only [List.mem_singleton, Prod.mk.injEq] at hq
        obtain ⟨rfl, rfl⟩ := hq
        obtain ⟨z, hz, hh⟩ := hi'.holds g _ List.mem_cons_self
        rw [hv.1] at hz
        obtain rfl := Option.some.inj hz
        exact ⟨v, by simp [m2], (hh.on (ks := []) (m' := m2) (by simp) (row_on [] ty k ys)).mono (fun _ _ => rfl) (Keep.refl w' _) (fun b _ hb => hO b hb) (fun _ _ e => e)⟩
    | panicked c => simp only [Ends] at he
    | outgrown => simp only [Ends] at he
end
end Go.Ab

namespace Go.Ab
open Go.Proofs
theorem cloneI_ok (h : Nat) (l : List Int) (hl : l.length * 8 ≤ 140737488355328) : ACalls Tryz.prog 51 [.d (.sl (encI l))] [] (fun r L => r = .ret (.rv h) ∧ L = [(h, .row 3 1 (dd (encI l)))]) := by
  refine ACalls.rowR h ?_
  refine ACalls.run Tryz.func51 rfl (by simp [Tryz.f51]) ?_; simp [Tryz.f51]
  refine AOps.slNil rfl (by simp; exact ⟨rfl, rfl⟩) rfl rfl rfl (by simp) ?_
  intro b hb
  refine AOps.nil ?_
  cases b with
  | true =>
    have hl : l = [] := by have := hb rfl; simpa [encI] using this
    subst hl
    simp [-cB, encI]
  | false =>
    simp [-cB]
    exact hl
end Go.Ab

namespace Go.Ab
open Go.Proofs
end Go.Ab

namespace Go.Ab
section
variable {P : Program} {n : Nat} {s : St} {Q : AX → St → Prop} {L : Heap}
end
end Go.Ab

namespace Go.Ab
open Go.Proofs
end Go.Ab

namespace Go.Ab
open Go.Proofs
end Go.Ab

namespace Go.Ab
def cutM (nx : List Int) (x : Int) (l : List Int) : List Int := l.foldl (fun a c => if atI nx c = x then a.set c.toNat (atI nx x) else a) nx
end Go.Ab

namespace Go.Ab
open Go.Proofs
def leaveM (w : GWorld) (x : Int) : GWorld :=
  { w with
    Parent := w.Parent.set x.toNat 0
    Child := if atI w.Parent x ≠ 0 ∧ atI w.Child (atI w.Parent x) = x then w.Child.set (atI w.Parent x).toNat (atI w.Next x) else w.Child
    Next := (if atI w.Parent x = 0 ∨ atI w.Child (atI w.Parent x) = x then w.Next else cutM w.Next x (kidsM w.tree (atI w.Parent x))).set x.toNat 0 }
structure LeaveOk (w : GWorld) (x : Int) : Prop where
  wf : w.wf
  hC : w.Child.length = w.Parent.length
  hN : w.Next.length = w.Parent.length
  hx : isT w.Parent.length x = true
  up : atI w.Parent x = 0 ∨ isT w.Parent.length (atI w.Parent x) = true
end Go.Ab

namespace Go.Ab
open Go.Proofs
structure Wld (w : GWorld) : Prop where
  wf : w.wf
  hC : w.Child.length = w.Parent.length
  hN : w.Next.length = w.Parent.length
  up : ∀ x, isT w.Parent.length x = true → atI w.Parent x = 0 ∨ isT w.Parent.length (atI w.Parent x) = true
def moveM (w : GWorld) (x to : Int) : GWorld :=
  { leaveM w x with
    Parent := (leaveM w x).Parent.set x.toNat to
    Next := (leaveM w x).Next.set x.toNat (atI (leaveM w x).Child to)
    Child := (leaveM w x).Child.set to.toNat x }
def removeR (w : GWorld) (x : Int) : GWorld × Int := if isT w.Parent.length x then (leaveM w x, 0) else (w, 11)
def moveR (w : GWorld) (x to : Int) : GWorld × Int :=
  if isT w.Parent.length x && isT w.Parent.length to then if x ∈ upsM w.tree to then (w, 18) else (moveM w x to, 0) else (w, 11)
end Go.Ab

namespace Go.Ab
open Go.Proofs
def askedM (w : GWorld) (x f : Int) : Int := if isT w.Parent.length x then if 0 ≤ f ∧ f ≤ 15 then 0 else 5 else 11
def placeE (t : GTables) (w : GWorld) (x p : Int) : Int := if isT w.Parent.length x then if 0 ≤ p ∧ p < t.Props.length then 0 else 5 else 11
def propR (t : GTables) (w : GWorld) (x p : Int) : Int × Int := (if placeE t w x p = 0 then w.Props[(x * t.Props.length + p).toNat]?.getD 0 else 0, placeE t w x p)
end Go.Ab

namespace Go.Ab
open Go.Proofs
def putR (t : GTables) (w : GWorld) (x p n : Int) : GWorld × Int := if placeE t w x p = 0 then if int16 n then ({ w with Props := w.Props.set (x * t.Props.length + p).toNat n }, 0) else (w, 1) else (w, placeE t w x p)
end Go.Ab

namespace Go.Ab
end Go.Ab

namespace Go.Ab
open Go.Proofs
end Go.Ab

namespace Go.Ab
open Go.Proofs
def xorM (a b : Int) : Int := IntKind.wrap .u64 ((BitVec.ofInt IntKind.u64.bits a) ^^^ (BitVec.ofInt IntKind.u64.bits b)).toNat
def shrM (a : Int) (k : Nat) : Int := a.fdiv (2 ^ (min k IntKind.u64.bits))
def shlM (a : Int) (k : Nat) : Int := IntKind.wrap .u64 (a * 2 ^ (min k IntKind.u64.bits))
def oneM (s : Int) : Int := if s = 0 then 1 else s
def nextM (s : Int) : Int :=
  let s0 := oneM s
  let s1 := xorM s0 (shrM s0 12)
  let s2 := xorM s1 (shlM s1 25)
  xorM s2 (shrM s2 27)
def mixV (s : Int) : Int := IntKind.wrap .u32 (shrM (IntKind.wrap .u64 (nextM s * 2685821657736338717)) 32)
def mixB (s n : Int) : Int × Int := if n < 1 then (0, s) else ((mixV s) % n, nextM s)
end Go.Ab

namespace Go.Ab
open Go.Proofs
def tru (b : Bool) : Int := if b then 1 else 0
def treeR (w : GWorld) (what x : Int) : Int × Int :=
  if what = 1 ∨ what = 2 ∨ what = 3 then
    if isT w.Parent.length (wrapM x) then ((if what = 1 then atI w.Parent (wrapM x) else if what = 2 then atI w.Child (wrapM x) else atI w.Next (wrapM x)), 0) else (0, 11)
  else (0, 16)
def selfR (w : GWorld) (e : GEnv) (what : Int) : Int × Int :=
  if what = 1 then (topM w.tree 1, 0) else if what = 2 then (1, 0) else if what = 3 then (wrapM e.Noun, 0) else if what = 4 then (wrapM e.Second, 0) else if what = 5 then (wrapM e.Number, 0) else if what = 6 then (wrapM w.Score, 0) else (0, 16)
theorem refTruth_ok (b : Bool) : Pure Tryz.prog 182 [.d (.v (.bool b))] (.d (.v (.int .i64 (tru b)))) := by
  unfold tru
  cases b
  · refine Pure.run Tryz.func182 rfl (by simp [Tryz.f182]) ?_; simp [-cB, Tryz.f182]
  · refine Pure.run Tryz.func182 rfl (by simp [Tryz.f182]) ?_; simp [-cB, Tryz.f182]
theorem refNot_ok (n : Int) : Pure Tryz.prog 134 [.d (.v (.int .i64 n))] (.d (.v (.int .i64 (tru (decide (wrapM n = 0)))))) := by
  refine Pure.run Tryz.func134 rfl (by simp [Tryz.f134]) ?_; simp [-cB, Tryz.f134]
  try intro (_ : Nat → Nat)
  repeat' (first
    | (with_reducible refine And.intro ?_ ?_)
    | (refine condC_split (fun h => ?_) (fun h => ?_) <;> (try simp at h) <;> (try simp [-cB, *]))
    | (refine AOps.pureC rfl (refWrap_ok _) rfl rfl (by simp) rfl ?_ <;> (try simp [-cB, *]))
    | (refine AOps.pureC rfl (refTruth_ok _) rfl rfl (by simp) rfl ?_ <;> (try simp [-cB, *]))
    | (refine AOps.lendC rfl (refWrap_ok _) rfl (by simp) rfl rfl (by simp) rfl ?_ <;> (try simp [-cB, *]))
    | (refine AOps.lendC rfl (refTruth_ok _) rfl (by simp) rfl rfl (by simp) rfl ?_ <;> (try simp [-cB, *]))
    | (refine AOps.pureG rfl (fun h => refWrap_ok _) rfl (by first | rfl | (simp; rfl)) (by simp) (by simp) rfl ?_ <;> (try simp [-cB, *]))
    | (refine AOps.pureG rfl (fun h => refTruth_ok _) rfl (by first | rfl | (simp; rfl)) (by simp) (by simp) rfl ?_ <;> (try simp [-cB, *]))
    | (with_reducible intro _))
end Go.Ab

namespace Go.Ab
open Go.Proofs
def binR (w : GWorld) (op a b : Int) : Int × Int :=
  if op = 1 then (tru (decide (wrapM a ≠ 0) || decide (wrapM b ≠ 0)), 0)
  else if op = 2 then (tru (decide (wrapM a ≠ 0) && decide (wrapM b ≠ 0)), 0)
  else if op = 3 then (tru (decide (wrapM a = wrapM b)), 0)
  else if op = 4 then (tru (decide (wrapM a ≠ wrapM b)), 0)
  else if op = 5 then (tru (decide (wrapM a < wrapM b)), 0)
  else if op = 6 then (tru (decide (wrapM a ≤ wrapM b)), 0)
  else if op = 7 then (tru (decide (wrapM b < wrapM a)), 0)
  else if op = 8 then (tru (decide (wrapM b ≤ wrapM a)), 0)
  else if op = 9 then (if isT w.Parent.length (wrapM a) then (tru (decide (atI w.Parent (wrapM a) = wrapM b)), 0) else (0, 11))
  else if op = 10 then (addM (wrapM a) (wrapM b), 0)
  else if op = 11 then (subM (wrapM a) (wrapM b), 0)
  else if op = 12 then (mulM (wrapM a) (wrapM b), 0)
  else if op = 13 then divM (wrapM a) (wrapM b)
  else if op = 14 then modM (wrapM a) (wrapM b)
  else (0, 16)
theorem refBin_ok (w : GWorld) (op a b : Int) : Pure Tryz.prog 132 [.agg (w.enc.map .d), .d (.v (.int .i64 op)), .d (.v (.int .i64 a)), .d (.v (.int .i64 b))] (pr2 (binR w op a b)) := by
  have hd := refDiv_ok (wrapM a) (wrapM b)
  have hm := refMod_ok (wrapM a) (wrapM b)
  unfold pr2 at hd hm ⊢
  by_cases h9 : op = 9
  · subst h9
    simp only [binR]
    generalize hx : wrapM a = x
    generalize hy : wrapM b = y
    cases hT : isT w.Parent.length x with
    | false =>
      refine Pure.run Tryz.func132 rfl (by simp [Tryz.f132]) ?_; simp [-cB, Tryz.f132]
      try intro (_ : Nat → Nat)
      repeat' (first
        | (with_reducible refine And.intro ?_ ?_)
        | (refine condC_split (fun h => ?_) (fun h => ?_) <;> (try simp at h) <;> (try simp [-cB, *]))
        | (refine AOps.pureC rfl (refWrap_ok _) rfl rfl (by simp) rfl ?_ <;> (try simp [-cB, *]))
        | (refine AOps.pureC rfl (refIs20_ok w _) rfl rfl (by simp) rfl ?_ <;> (try simp [-cB, *]))
        | (refine AOps.lendC rfl (refWrap_ok _) rfl (by simp) rfl rfl (by simp) rfl ?_ <;> (try simp [-cB, *]))
        | (refine AOps.lendC rfl (refIs20_ok w _) rfl (by simp) rfl rfl (by simp) rfl ?_ <;> (try simp [-cB, *]))
        | (refine AOps.pureG rfl (fun h => refWrap_ok _) rfl (by first | rfl | (simp; rfl)) (by simp) (by simp) rfl ?_ <;> (try simp [-cB, *]))
        | (refine AOps.pureG rfl (fun h => refIs20_ok w _) rfl (by first | rfl | (simp; rfl)) (by simp) (by simp) rfl ?_ <;> (try simp [-cB, *]))
        | (with_reducible intro _))
    | true =>
      have hb := isT_iff.1 hT
      have g1 := atI_getD hT
      refine Pure.run Tryz.func132 rfl (by simp [Tryz.f132]) ?_; simp [-cB, Tryz.f132]
      try intro (_ : Nat → Nat)
      repeat' (first
        | (with_reducible refine And.intro ?_ ?_)
        | (refine condC_split (fun h => ?_) (fun h => ?_) <;> (try simp at h) <;> (try simp [-cB, *]))
        | (refine AOps.pureC rfl (refWrap_ok _) rfl rfl (by simp) rfl ?_ <;> (try simp [-cB, *]))
        | (refine AOps.pureC rfl (refIs20_ok w _) rfl rfl (by simp) rfl ?_ <;> (try simp [-cB, *]))
        | (refine AOps.pureC rfl (refTruth_ok _) rfl rfl (by simp) rfl ?_ <;> (try simp [-cB, *]))
        | (refine AOps.lendC rfl (refWrap_ok _) rfl (by simp) rfl rfl (by simp) rfl ?_ <;> (try simp [-cB, *]))
        | (refine AOps.lendC rfl (refIs20_ok w _) rfl (by simp) rfl rfl (by simp) rfl ?_ <;> (try simp [-cB, *]))
        | (refine AOps.lendC rfl (refTruth_ok _) rfl (by simp) rfl rfl (by simp) rfl ?_ <;> (try simp [-cB, *]))
        | (refine AOps.pureG rfl (fun h => refWrap_ok _) rfl (by first | rfl | (simp; rfl)) (by simp) (by simp) rfl ?_ <;> (try simp [-cB, *]))
        | (refine AOps.pureG rfl (fun h => refIs20_ok w _) rfl (by first | rfl | (simp; rfl)) (by simp) (by simp) rfl ?_ <;> (try simp [-cB, *]))
        | (refine AOps.pureG rfl (fun h => refTruth_ok _) rfl (by first | rfl | (simp; rfl)) (by simp) (by simp) rfl ?_ <;> (try simp [-cB, *]))
        | (with_reducible intro _))
      all_goals (try omega)
  · unfold binR
    refine Pure.run Tryz.func132 rfl (by simp [Tryz.f132]) ?_; simp [-cB, Tryz.f132]
    try intro (_ : Nat → Nat)
    repeat' (first
      | (with_reducible refine And.intro ?_ ?_)
      | (refine condC_split (fun h => ?_) (fun h => ?_) <;> (try simp at h) <;> (try simp [-cB, *]))
      | (refine AOps.pureC rfl (refWrap_ok _) rfl rfl (by simp) rfl ?_ <;> (try simp [-cB, *]))
      | (refine AOps.pureC rfl (refIs20_ok w _) rfl rfl (by simp) rfl ?_ <;> (try simp [-cB, *]))
      | (refine AOps.pureC rfl (refTruth_ok _) rfl rfl (by simp) rfl ?_ <;> (try simp [-cB, *]))
      | (refine AOps.pureC rfl (refAdd_ok _ _) rfl rfl (by simp) rfl ?_ <;> (try simp [-cB, *]))
      | (refine AOps.pureC rfl (refSub_ok _ _) rfl rfl (by simp) rfl ?_ <;> (try simp [-cB, *]))
      | (refine AOps.pureC rfl (refMul_ok _ _) rfl rfl (by simp) rfl ?_ <;> (try simp [-cB, *]))
      | (refine AOps.pureC rfl (hd) rfl rfl (by simp) rfl ?_ <;> (try simp [-cB, *]))
      | (refine AOps.pureC rfl (hm) rfl rfl (by simp) rfl ?_ <;> (try simp [-cB, *]))
      | (refine AOps.lendC rfl (refWrap_ok _) rfl (by simp) rfl rfl (by simp) rfl ?_ <;> (try simp [-cB, *]))
      | (refine AOps.lendC rfl (refIs20_ok w _) rfl (by simp) rfl rfl (by simp) rfl ?_ <;> (try simp [-cB, *]))
      | (refine AOps.lendC rfl (refTruth_ok _) rfl (by simp) rfl rfl (by simp) rfl ?_ <;> (try simp [-cB, *]))
      | (refine AOps.lendC rfl (refAdd_ok _ _) rfl (by simp) rfl rfl (by simp) rfl ?_ <;> (try simp [-cB, *]))
      | (refine AOps.lendC rfl (refSub_ok _ _) rfl (by simp) rfl rfl (by simp) rfl ?_ <;> (try simp [-cB, *]))
      | (refine AOps.lendC rfl (refMul_ok _ _) rfl (by simp) rfl rfl (by simp) rfl ?_ <;> (try simp [-cB, *]))
      | (refine AOps.lendC rfl (hd) rfl (by simp) rfl rfl (by simp) rfl ?_ <;> (try simp [-cB, *]))
      | (refine AOps.lendC rfl (hm) rfl (by simp) rfl rfl (by simp) rfl ?_ <;> (try simp [-cB, *]))
      | (refine AOps.pureG rfl (fun h => refWrap_ok _) rfl (by first | rfl | (simp; rfl)) (by simp) (by simp) rfl ?_ <;> (try simp [-cB, *]))
      | (refine AOps.pureG rfl (fun h => refIs20_ok w _) rfl (by first | rfl | (simp; rfl)) (by simp) (by simp) rfl ?_ <;> (try simp [-cB, *]))
      | (refine AOps.pureG rfl (fun h => refTruth_ok _) rfl (by first | rfl | (simp; rfl)) (by simp) (by simp) rfl ?_ <;> (try simp [-cB, *]))
      | (refine AOps.pureG rfl (fun h => refAdd_ok _ _) rfl (by first | rfl | (simp; rfl)) (by simp) (by simp) rfl ?_ <;> (try simp [-cB, *]))
      | (refine AOps.pureG rfl (fun h => refSub_ok _ _) rfl (by first | rfl | (simp; rfl)) (by simp) (by simp) rfl ?_ <;> (try simp [-cB, *]))
      | (refine AOps.pureG rfl (fun h => refMul_ok _ _) rfl (by first | rfl | (simp; rfl)) (by simp) (by simp) rfl ?_ <;> (try simp [-cB, *]))
      | (refine AOps.pureG rfl (fun h => hd) rfl (by first | rfl | (simp; rfl)) (by simp) (by simp) rfl ?_ <;> (try simp [-cB, *]))
      | (refine AOps.pureG rfl (fun h => hm) rfl (by first | rfl | (simp; rfl)) (by simp) (by simp) rfl ?_ <;> (try simp [-cB, *]))
      | (with_reducible intro _))
    all_goals rfl
end Go.Ab

namespace Go.Ab
structure XC where
  B : GBook
  E : GEnv
  M : Int
structure XS where
  W : GWorld
  Out : ByteArray
  Wr : Bool
  Fuel : Int
  Dp : Int
  Ls : List Int
inductive OC where
  | nrm (n : Int)
  | ret (n : Int)
  | thr (e : Int)
  | over
abbrev inL {α : Type} (l : List α) (i : Int) : Prop := 0 ≤ i ∧ i < l.length
abbrev sml {α : Type} (l : List α) : Prop := l.length ≤ 1000000
def getI (l : List Int) (i : Int) : Int := l[i.toNat]?.getD 0
def okW (c : XC) (w : GWorld) : Bool := rightB c.B.Tables w && decide (0 ≤ w.Seed ∧ w.Seed < 18446744073709551616)
def digT (n : Nat) : ByteArray := if n < 10 then ⟨#[UInt8.ofNat (48 + n)]⟩ else digT (n / 10) ++ ⟨#[UInt8.ofNat (48 + n % 10)]⟩
def numT (n : Int) : ByteArray := if n < 0 then ⟨#[45]⟩ ++ digT n.natAbs else digT n.natAbs
def textT (t : GTables) (i : Int) : ByteArray := if i < 0 ∨ (t.Texts.length : Int) ≤ i then ⟨#[]⟩ else t.Texts[i.toNat]?.getD ⟨#[]⟩
def noneT : ByteArray := ⟨#[110, 111, 116, 104, 105, 110, 103]⟩
def titleT (t : GTables) (x : Int) : ByteArray := if x < 1 ∨ (t.Things.length : Int) ≤ x then noneT else textT t (thingAt t x).Title
def hasF (w : GWorld) (x : Int) (f : Nat) : Bool := isT w.Parent.length x && decide (getI w.Flags x / (2 ^ f : Nat) % 2 = 1)
def listedM (w : GWorld) (x : Int) : List Int := (kidsM w.tree x).filter fun y => !hasF w y 3 && decide (y ≠ 1)
def rowT : List ByteArray → ByteArray
  | [] => noneT
  | [a] => a
  | [a, b] => a ++ ⟨#[32, 97, 110, 100, 32]⟩ ++ b
  | a :: l => a ++ ⟨#[44, 32]⟩ ++ rowT l
def listM (t : GTables) (w : GWorld) (x : Int) : ByteArray := rowT ((listedM w x).map (titleT t))
def showsM (w : GWorld) (x : Int) : Bool := !hasF w x 2 || hasF w x 1
def reachV (w : GWorld) : Nat → Int → List Int
  | 0, _ => []
  | d + 1, x => (kidsM w.tree x).flatMap fun y => if hasF w y 3 then [] else y :: (if showsM w y then reachV w d y else [])
def hereM (w : GWorld) : Int := topM w.tree 1
def litM (w : GWorld) : Bool := hasF w (hereM w) 0 || (reachV w w.Parent.length (hereM w)).any fun y => hasF w y 0
def lookM (t : GTables) (w : GWorld) : ByteArray :=
  if litM w then titleT t (hereM w) ++ ⟨#[10]⟩ ++ (if (thingAt t (hereM w)).Text ≠ -1 then textT t (thingAt t (hereM w)).Text ++ ⟨#[10]⟩ else ⟨#[]⟩) ++ (if listedM w (hereM w) ≠ [] then ⟨#[89, 111, 117, 32, 115, 101, 101, 32]⟩ ++ listM t w (hereM w) ++ ⟨#[46, 10]⟩ else ⟨#[]⟩)
  else ⟨#[73, 116, 32, 105, 115, 32, 100, 97, 114, 107, 46, 10]⟩
def hasR (w : GWorld) (x f : Int) : Int × Int := (if askedM w x f = 0 then tru (hasF w x f.toNat) else 0, askedM w x f)
def flagR (w : GWorld) (x f : Int) (on : Bool) : GWorld × Int :=
  if askedM w x f = 0 then (if hasF w x f.toNat = on then w else { w with Flags := w.Flags.set x.toNat (if on then getI w.Flags x + (2 ^ f.toNat : Nat) else getI w.Flags x - (2 ^ f.toNat : Nat)) }, 0) else (w, askedM w x f)
def roomT (t : GTables) (x : Int) : Bool := decide (1 ≤ x) && decide (x < t.Things.length) && (thingAt t x).Room
def homeE (t : GTables) (p : GWorld × Int) : GWorld × Int := if p.2 = 0 ∧ roomT t (topM p.1.tree 1) = false then (p.1, 12) else p
def moveO (t : GTables) (w : GWorld) (x to : Int) : GWorld × Int := if roomT t x = true then (w, 12) else homeE t (moveR w x to)
def removeO (t : GTables) (w : GWorld) (x : Int) : GWorld × Int := if roomT t x = true ∨ x = 1 then (w, 12) else homeE t (removeR w x)
def outX (σ : XS) (s : ByteArray) : Option (XS × OC) := if σ.Out.size + s.size ≤ 140737488355328 then some ({ σ with Out := σ.Out ++ s, Wr := true }, .nrm 0) else none
def costX (c : XC) (σ : XS) : Option (XS × OC) := if 0 ≤ σ.Fuel ∧ σ.Fuel ≤ 1099511627776 then if c.M < σ.Fuel + 1 then some (σ, .thr 19) else some ({ σ with Fuel := σ.Fuel + 1 }, .nrm 0) else none
def pairO {α : Type} (w : α) (p : Int × Int) : α × OC := if p.2 = 0 then (w, .nrm p.1) else (w, .thr p.2)
def worldO (w : GWorld) (p : GWorld × Int) : GWorld × OC := if p.2 = 0 then (p.1, .nrm 0) else (w, .thr p.2)
def valW (c : XC) (w : GWorld) (k n : Int) (a : List Int) : Option (GWorld × OC) :=
  if okW c w = false then none
  else if k = 1 then some (w, .nrm n)
  else if k = 14 then (if inL w.Globals n then some (w, .nrm (getI w.Globals n)) else none)
  else if k = 12 then some (pairO w (selfR w c.E n))
  else if a.length = 0 then none
  else if k = 4 then some (w, .nrm (negM (getI a 0)))
  else if k = 5 then some (w, .nrm (tru (decide (wrapM (getI a 0) = 0))))
  else if k = 16 then some (pairO w (hasR w (getI a 0) n))
  else if k = 17 then some (pairO w (propR c.B.Tables w (getI a 0) n))
  else if k = 10 then some (pairO w (treeR w n (getI a 0)))
  else if k = 11 then (if wrapM (getI a 0) < 1 then some (w, .thr 1) else some ({ w with Seed := (mixB w.Seed (wrapM (getI a 0))).2 }, .nrm ((mixB w.Seed (wrapM (getI a 0))).1 + 1)))
  else if a.length = 1 then none
  else if k = 6 then some (pairO w (binR w n (getI a 0) (getI a 1)))
  else none
def ownA (e : GExpr) : Int := if e.Kind = 6 ∨ e.Kind = 10 ∨ e.Kind = 12 then e.Op else e.Num
def valX (c : XC) (σ : XS) (e : GExpr) (a : List Int) : Option (XS × OC) :=
  if e.Kind = 15 then (if inL σ.Ls e.Num then some (σ, .nrm (getI σ.Ls e.Num)) else none)
  else (valW c σ.W e.Kind (ownA e) a).map fun p => ({ σ with W := p.1 }, p.2)
def chgW (c : XC) (w : GWorld) (k num : Int) (a : List Int) : Option (GWorld × OC) :=
  if okW c w = false then none
  else if k = 13 then some (w, .over)
  else if k = 14 then some ({ w with Over := 1 }, .over)
  else if k = 15 then some ({ w with Over := 2 }, .over)
  else if k = 18 then (if inL w.Timers num then some ({ w with Timers := w.Timers.set num.toNat 0 }, .nrm 0) else none)
  else if a.length = 0 then none
  else if k = 19 then some (w, .nrm 0)
  else if k = 5 then some (worldO w (flagR w (getI a 0) num true))
  else if k = 6 then some (worldO w (flagR w (getI a 0) num false))
  else if k = 8 then some (worldO w (removeO c.B.Tables w (getI a 0)))
  else if k = 16 then some ({ w with Score := addM w.Score (getI a 0) }, .nrm 0)
  else if k = 17 then (if inL w.Timers num then some ({ w with Timers := w.Timers.set num.toNat (if getI a 0 < 1 then 1 else getI a 0) }, .nrm 0) else none)
  else if k = 20 then (if getI a 0 < 1 ∨ 12 < getI a 0 then some (w, .thr 5) else some ({ w with Go := getI a 0 }, .nrm 0))
  else if k = 23 then (if inL w.Globals num then some ({ w with Globals := w.Globals.set num.toNat (getI a 0) }, .nrm 0) else none)
  else if a.length = 1 then none
  else if k = 4 then some (worldO w (putR c.B.Tables w (getI a 0) num (getI a 1)))
  else if k = 7 then some (worldO w (moveO c.B.Tables w (getI a 0) (getI a 1)))
  else none
def chgX (c : XC) (σ : XS) (k num : Int) (a : List Int) : Option (XS × OC) :=
  if k = 21 then (if okW c σ.W = true then outX σ (lookM c.B.Tables σ.W) else none)
  else if k = 22 then (if okW c σ.W = true ∧ 0 < a.length then outX σ (listM c.B.Tables σ.W (getI a 0)) else none)
  else (chgW c σ.W k num a).map fun p => ({ σ with W := p.1 }, p.2)
def wrapO (p : XS × OC) : XS × OC := match p.2 with
  | .nrm n => (p.1, .nrm (wrapM n))
  | _ => p
mutual
def askX (c : XC) : Nat → XS → GExpr → Option (XS × OC)
  | 0, _, _ => none
  | g + 1, σ, e =>
    if e.Kind = 6 ∧ (e.Op = 1 ∨ e.Op = 2) then
      match e.Args with
      | x :: y :: _ => match askX c g σ x with
        | some (σ1, .nrm l) => if decide (l ≠ 0) = decide (e.Op = 1) then some (σ1, .nrm (tru (decide (l ≠ 0)))) else match askX c g σ1 y with
          | some (σ2, .nrm r) => some (σ2, .nrm (tru (decide (r ≠ 0))))
          | r => r
        | r => r
      | _ => none
    else if ¬ sml e.Args then none else match asksX c g σ e.Args with
      | some (σ1, .inl a) => if e.Kind = 18 then (if inL c.B.Tables.Funcs e.Num then (callX c g σ1 (getI c.B.Tables.Funcs e.Num) a).map wrapO else none) else (valX c σ1 e a).map wrapO
      | some (σ1, .inr o) => some (σ1, o)
      | none => none
def asksX (c : XC) : Nat → XS → List GExpr → Option (XS × (List Int ⊕ OC))
  | 0, _, _ => none
  | _ + 1, σ, [] => some (σ, .inl [])
  | g + 1, σ, e :: l => match askX c g σ e with
    | some (σ1, .nrm n) => match asksX c g σ1 l with
      | some (σ2, .inl a) => some (σ2, .inl (n :: a))
      | r => r
    | some (σ1, o) => some (σ1, .inr o)
    | none => none
def callX (c : XC) : Nat → XS → Int → List Int → Option (XS × OC)
  | 0, _, _, _ => none
  | g + 1, σ, r, a =>
    if σ.Dp < 0 then none else if 32 ≤ σ.Dp then some (σ, .thr 17) else
    if inL c.B.Tables.Locals r ∧ inL c.B.Routines r ∧ (a.length : Int) ≤ getI c.B.Tables.Locals r ∧ getI c.B.Tables.Locals r ≤ 1000 ∧ sml (c.B.Routines[r.toNat]?.getD []) then
      match blockX c g { σ with Dp := σ.Dp + 1, Ls := a.map wrapM ++ List.replicate ((getI c.B.Tables.Locals r).toNat - a.length) 0 } (c.B.Routines[r.toNat]?.getD []) with
      | some (σ1, o) => some ({ σ1 with Dp := σ1.Dp - 1, Ls := σ.Ls }, match o with | .nrm _ => .nrm 0 | .ret n => .nrm n | o => o)
      | none => none
    else none
def blockX (c : XC) : Nat → XS → List GStmt → Option (XS × OC)
  | 0, _, _ => none
  | _ + 1, σ, [] => some (σ, .nrm 0)
  | g + 1, σ, x :: l => match stmtX c g σ x with
    | some (σ1, .nrm _) => blockX c g σ1 l
    | r => r
def stmtX (c : XC) : Nat → XS → GStmt → Option (XS × OC)
  | 0, _, _ => none
  | g + 1, σ, x =>
    if x.Kind = 10 then (if sml x.Body then whileX c g σ x else none) else
    match costX c σ with
    | some (σ, .nrm _) => if ¬ sml x.Args then none else if x.Kind = 1 then saysX c g σ x.Args else match asksX c g σ x.Args with
      | some (σ1, .inl a) => doesX c g σ1 x a
      | some (σ1, .inr o) => some (σ1, o)
      | none => none
    | r => r
def saysX (c : XC) : Nat → XS → List GExpr → Option (XS × OC)
  | 0, _, _ => none
  | _ + 1, σ, [] => some (σ, .nrm 0)
  | g + 1, σ, e :: l =>
    match sayX c g σ e with
    | some (σ1, .nrm _) => saysX c g σ1 l
    | r => r
def sayX (c : XC) : Nat → XS → GExpr → Option (XS × OC)
  | 0, _, _ => none
  | g + 1, σ, e =>
    if e.Kind = 19 then outX σ (textT c.B.Tables e.Num)
    else if e.Kind = 13 then match e.Args with
      | x :: _ => match askX c g σ x with
        | some (σ1, .nrm n) => outX σ1 (titleT c.B.Tables n)
        | r => r
      | [] => none
    else match askX c g σ e with
    | some (σ1, .nrm n) => outX σ1 (numT n)
    | r => r
def whileX (c : XC) : Nat → XS → GStmt → Option (XS × OC)
  | 0, _, _ => none
  | g + 1, σ, x =>
    match costX c σ with
    | some (σ, .nrm _) => match x.Args with
      | e :: _ => match askX c g σ e with
        | some (σ1, .nrm n) => if n = 0 then some (σ1, .nrm 0) else match blockX c g σ1 x.Body with
          | some (σ2, .nrm _) => whileX c g σ2 x
          | r => r
        | r => r
      | [] => none
    | r => r
def eachX (c : XC) : Nat → XS → GStmt → Option (XS × OC)
  | 0, _, _ => none
  | g + 1, σ, x =>
    if inL σ.Ls x.Num ∧ inL σ.Ls (x.Num + 1) ∧ x.Num ≤ 1000000 ∧ okW c σ.W = true then
      if getI σ.Ls x.Num = 0 then some (σ, .nrm 0) else
      match costX c σ with
      | some (σ, .nrm _) =>
        if (treeR σ.W 3 (getI σ.Ls x.Num)).2 ≠ 0 then some (σ, .thr (treeR σ.W 3 (getI σ.Ls x.Num)).2) else
        match blockX c g { σ with Ls := σ.Ls.set (x.Num + 1).toNat (treeR σ.W 3 (getI σ.Ls x.Num)).1 } x.Body with
        | some (σ2, .nrm _) => eachX c g { σ2 with Ls := σ2.Ls.set x.Num.toNat (getI σ2.Ls (x.Num + 1)) } x
        | r => r
      | r => r
    else none
def doesX (c : XC) : Nat → XS → GStmt → List Int → Option (XS × OC)
  | 0, _, _, _ => none
  | g + 1, σ, x, a =>
    if x.Kind = 2 ∨ x.Kind = 3 then (if 0 < a.length ∧ inL σ.Ls x.Num then some ({ σ with Ls := σ.Ls.set x.Num.toNat (getI a 0) }, .nrm 0) else none)
    else if x.Kind = 9 then (if 0 < a.length ∧ sml x.Body ∧ sml x.Else then blockX c g σ (if getI a 0 ≠ 0 then x.Body else x.Else) else none)
    else if x.Kind = 11 then (if 0 < a.length ∧ okW c σ.W = true ∧ inL σ.Ls x.Num ∧ sml x.Body then
        if (treeR σ.W 2 (getI a 0)).2 ≠ 0 then some (σ, .thr (treeR σ.W 2 (getI a 0)).2) else eachX c g { σ with Ls := σ.Ls.set x.Num.toNat (treeR σ.W 2 (getI a 0)).1 } x
      else none)
    else if x.Kind = 12 then (if 0 < a.length then some (σ, .ret (getI a 0)) else none)
    else chgX c σ x.Kind x.Num a
end
end Go.Ab

namespace Go.Ab
structure MS where
  W : GWorld
  Out : ByteArray
  Fuel : Int
inductive Oc where
  | ret (n : Int) (σ : MS)
  | thr (e : Int) (σ : MS)
  | over (σ : MS)
inductive Ev where
  | ok (S L : List Int) (σ : MS)
  | thr (e : Int)
  | over (σ : MS)
inductive Nx where
  | go (r : List GIns) (S L : List Int) (σ : MS) (k : Nat)
  | stop (o : Oc)
  | call (f : Int) (a S : List Int)
  | stuck
def after : List GIns → Int → Option (List GIns)
  | [], _ => none
  | i :: r, n => if i.Op = 38 ∧ i.Arg = n then some r else after r n
structure Mach where
  J : GIns → List Int → List Int → MS → Option Ev
  fn : Int → Int
  pa : Int → Nat
  lo : Int → List Int → List Int
def Nx.to (S L : List Int) (σ : MS) : Option (List GIns) → Nx
  | some r => .go r S L σ 1
  | none => .stuck
def Nx.zero (r : List GIns) (L : List Int) (σ : MS) (t : Option (List GIns)) : List Int → Nx
  | v :: S => if wrapM v = 0 then Nx.to S L σ t else .go r S L σ 1
  | [] => .stuck
def Nx.back (σ : MS) : List Int → Nx
  | v :: _ => .stop (.ret v σ)
  | [] => .stuck
def Nx.ev (r : List GIns) (σ : MS) : Option Ev → Nx
  | some (.ok S' L' σ') => .go r S' L' σ' 1
  | some (.thr e) => .stop (.thr e σ)
  | some (.over σ') => .stop (.over σ')
  | none => .stuck
def nx (m : Mach) (d : Nat) (l : List GIns) (i : GIns) (r : List GIns) (S L : List Int) (σ : MS) : Nx :=
  if i.Op = 38 then .go r S L σ 0
  else if i.Op = 24 then Nx.to S L σ (after l i.Arg)
  else if i.Op = 25 then Nx.zero r L σ (after l i.Arg) S
  else if i.Op = 27 then Nx.back σ S
  else if i.Op = 26 then (if 32 ≤ d then .stop (.thr 17 σ) else if m.pa (m.fn i.Arg) ≤ S.length then .call (m.fn i.Arg) (S.take (m.pa (m.fn i.Arg))).reverse (S.drop (m.pa (m.fn i.Arg))) else .stuck)
  else Nx.ev r σ (m.J i S L σ)
def flat (op : Int) : Prop := op ≠ 38 ∧ op ≠ 24 ∧ op ≠ 25 ∧ op ≠ 27 ∧ op ≠ 26
def run (m : Mach) (P : Int → List GIns) : Nat → Nat → List GIns → List GIns → List Int → List Int → MS → Option (Oc × Nat)
  | 0, _, _, _, _, _, _ => none
  | _ + 1, _, _, [], _, _, _ => none
  | g + 1, d, l, i :: r, S, L, σ => match nx m d l i r S L σ with
    | .go r' S' L' σ' k => (run m P g d l r' S' L' σ').map fun x => (x.1, x.2 + k)
    | .stop o => some (o, 1)
    | .call f a S' => match run m P g (d + 1) (P f) (P f) [] (m.lo f a) σ with
      | some (.ret v σ', k) => (run m P g d l r (wrapM v :: S') L σ').map fun x => (x.1, x.2 + k + 1)
      | some (o, k) => some (o, k + 1)
      | none => none
    | .stuck => none
def Sim (m : Mach) (P P' : Int → List GIns) (l r l' r' : List GIns) (g : Nat) : Prop :=
  ∀ d S L σ o n, run m P g d l r S L σ = some (o, n) → ∃ g' n', n' ≤ n ∧ run m P' g' d l' r' S L σ = some (o, n')
end Go.Ab

namespace Go.Ab
inductive RP (p old new q : List GIns) : List GIns → List GIns → Prop where
  | inp (p1 p2 : List GIns) : p = p1 ++ p2 → RP p old new q (p2 ++ (old ++ q)) (p2 ++ (new ++ q))
  | inq (q1 q2 : List GIns) : q = q1 ++ q2 → RP p old new q q2 q2
structure All (m : Mach) (P P' : Int → List GIns) (p old new q : List GIns) (g : Nat) : Prop where
  same : ∀ l r, Sim m P P' l r l r g
  rel : ∀ r r', RP p old new q r r' → Sim m P P' (p ++ (old ++ q)) r (p ++ (new ++ q)) r' g
end Go.Ab

namespace Go.Ab
def opA (r : List GIns) (k : Nat) : Int := (r[k]?.map GIns.Op).getD 0
def argA (r : List GIns) (k : Nat) : Int := (r[k]?.map GIns.Arg).getD 0
def notM (n : Int) : Int := tru (decide (wrapM n = 0))
def pushI (n : Int) : List GIns := [⟨1, wrapM n⟩]
def reckM (r : List GIns) : Option (Nat × List GIns) :=
  if opA r 0 = 1 ∧ opA r 1 = 1 ∧ opA r 2 = 8 ∧ argA r 2 ≠ 9 ∧ (binR GWorld.zero (argA r 2) (argA r 0) (argA r 1)).2 = 0 then some (3, pushI (binR GWorld.zero (argA r 2) (argA r 0) (argA r 1)).1)
  else if opA r 0 ≠ 1 then none
  else if opA r 1 = 9 then some (2, pushI (negM (argA r 0)))
  else if opA r 1 = 10 then some (2, pushI (notM (argA r 0)))
  else if opA r 1 = 11 then some (2, pushI (1 - notM (argA r 0)))
  else none
def knownM (r : List GIns) : Option (Nat × List GIns) :=
  if opA r 0 = 10 ∧ opA r 1 = 10 ∧ opA r 2 = 25 then some (2, [])
  else if opA r 0 = 1 ∧ opA r 1 = 25 then (if wrapM (argA r 0) = 0 then some (2, [⟨24, argA r 1⟩]) else some (2, []))
  else if opA r 0 = 1 ∧ opA r 1 = 2 then some (2, [])
  else none
def isLab (i : GIns) : Bool := decide (i.Op = 38)
def endsOp (o : Int) : Prop := o = 24 ∨ o = 27 ∨ o = 28 ∨ o = 29 ∨ o = 30
instance (o : Int) : Decidable (endsOp o) := by unfold endsOp; infer_instance
def deadN (r : List GIns) : Nat := (r.takeWhile fun i => !isLab i).length
def askedL (l : List GIns) (n : Int) : Bool := l.any fun i => (decide (i.Op = 24) || decide (i.Op = 25)) && decide (i.Arg = n)
def farM (l r : List GIns) : Option (List GIns) :=
  match after l (argA r 0) with
  | none => none
  | some a => if opA (a.dropWhile isLab) 0 = 24 ∧ argA (a.dropWhile isLab) 0 ≠ argA r 0 then some [⟨opA r 0, argA (a.dropWhile isLab) 0⟩] else none
def betterR (l r : List GIns) : Option (Nat × Nat × List GIns) :=
  match reckM r with
  | some (n, x) => some (0, n, x)
  | none => match knownM r with
    | some (n, x) => some (0, n, x)
    | none =>
      if endsOp (opA r 0) ∧ 0 < deadN r.tail then some (1, deadN r.tail, [])
      else if opA r 0 = 24 ∨ opA r 0 = 25 then
        (if opA r 0 = 24 ∧ (r.tail.takeWhile isLab).any (fun i => decide (i.Arg = argA r 0)) = true then some (0, 1, [])
         else (farM l r).map fun x => (0, 1, x))
      else if opA r 0 = 38 ∧ askedL l (argA r 0) = false then some (0, 1, [])
      else none
def swapM (l : List GIns) (k n : Nat) (x : List GIns) : List GIns := l.take k ++ (x ++ l.drop (k + n))
def betterM (l : List GIns) (k : Nat) : Option (List GIns) := (betterR l (l.drop k)).map fun y => swapM l (k + y.1) y.2.1 y.2.2
def onceM (l : List GIns) : Nat → Nat → Option (List GIns)
  | 0, _ => none
  | n + 1, k => match betterM l k with
    | some x => some x
    | none => onceM l n (k + 1)
def allM : Nat → List GIns → List GIns
  | 0, l => l
  | n + 1, l => match onceM l l.length 0 with
    | some x => allM n x
    | none => l
def peepM (l : List GIns) : List GIns := allM (16 * l.length) l
structure Mach.Std (m : Mach) : Prop where
  push : ∀ a S L σ, m.J ⟨1, a⟩ S L σ = some (.ok (wrapM a :: S) L σ)
  pop : ∀ x v S L σ, m.J ⟨2, x⟩ (v :: S) L σ = some (.ok S L σ)
  bin : ∀ o a b S L σ, o ≠ 9 → (binR GWorld.zero o a b).2 = 0 → m.J ⟨8, o⟩ (wrapM b :: wrapM a :: S) L σ = some (.ok (wrapM (binR GWorld.zero o a b).1 :: S) L σ)
  neg : ∀ x a S L σ, m.J ⟨9, x⟩ (wrapM a :: S) L σ = some (.ok (wrapM (negM a) :: S) L σ)
  no : ∀ x v S L σ, m.J ⟨10, x⟩ (v :: S) L σ = some (.ok (notM v :: S) L σ)
  no0 : ∀ x L σ, m.J ⟨10, x⟩ [] L σ = none
  test : ∀ x a S L σ, m.J ⟨11, x⟩ (wrapM a :: S) L σ = some (.ok (tru (decide (wrapM a ≠ 0)) :: S) L σ)
def labsL (l : List GIns) : List Int := (l.filter isLab).map GIns.Arg
theorem mem_labsL {l : List GIns} {n : Int} : n ∈ labsL l ↔ ∃ i ∈ l, i.Op = 38 ∧ i.Arg = n := by
  simp only [labsL, List.mem_map, List.mem_filter, isLab, decide_eq_true_eq]
  constructor
  · rintro ⟨i, ⟨h1, h2⟩, h3⟩; exact ⟨i, h1, h2, h3⟩
  · rintro ⟨i, h1, h2, h3⟩; exact ⟨i, ⟨h1, h2⟩, h3⟩
structure Mach.Ok (m : Mach) : Prop extends m.Std where
  stops : ∀ x S L σ S' L' σ', x = 28 ∨ x = 29 ∨ x = 30 → ∀ a, m.J ⟨x, a⟩ S L σ ≠ some (.ok S' L' σ')
theorem takeWhile_all {α : Type} (f : α → Bool) : ∀ (l : List α), ∀ x ∈ l.takeWhile f, f x = true
  | [], x, h => by cases h
  | y :: l, x, h => by
    rw [List.takeWhile_cons] at h
    split at h
    · rename_i hy
      rcases List.mem_cons.1 h with rfl | h
      · exact hy
      · exact takeWhile_all f l x h
    · cases h
theorem take_while_len {α : Type} (f : α → Bool) (l : List α) : l = l.takeWhile f ++ l.drop (l.takeWhile f).length := by
  have h := List.takeWhile_append_dropWhile (p := f) (l := l)
  have h2 : l.drop (l.takeWhile f).length = l.dropWhile f := by
    conv => lhs; rw [← h]
    rw [List.drop_append_of_le_length (by simp [h])]
    simp [h]
  rw [h2, h]
end Go.Ab

namespace Go.Ab
theorem onceM_some {l l' : List GIns} : ∀ (n k : Nat), onceM l n k = some l' → ∃ j, k ≤ j ∧ j < k + n ∧ betterM l j = some l'
  | 0, k, h => by cases h
  | n + 1, k, h => by
    rw [onceM] at h
    split at h
    · rename_i x hx
      exact ⟨k, Nat.le_refl _, by omega, by rw [hx]; exact h⟩
    · obtain ⟨j, h1, h2, h3⟩ := onceM_some n (k + 1) h
      exact ⟨j, by omega, by omega, h3⟩
end Go.Ab

namespace Go.Ab
def bytesM (n : Int) : Nat := if n = 0 then 0 else if -128 ≤ n ∧ n ≤ 127 then 1 else 2
def hasA (o : Int) : Bool := [1, 3, 4, 5, 6, 7, 8, 12, 13, 14, 15, 16, 19, 21, 24, 25, 26, 32, 33, 38].contains o
def argB (n : Int) : Nat → List Int
  | 0 => []
  | 1 => [n % 256]
  | _ => [n / 256 % 256, n % 256]
def encK (o n : Int) (k : Nat) : List Int := (4 * o + k) :: argB n k
def argE (i : GIns) : Int := if hasA i.Op then wrapM i.Arg else 0
def encM (i : GIns) : List Int := if i.Op < 1 ∨ 38 ≤ i.Op then [] else encK i.Op (argE i) (bytesM (argE i))
def argD (b : List Int) (i : Int) (k : Int) : Int :=
  if k = 1 then (if getI b i ≥ 128 then getI b i - 256 else getI b i) else if k = 2 then wrapM (256 * getI b i + getI b (i + 1)) else 0
def decM (b : List Int) (i : Int) : GIns × Int × Int :=
  if i < 0 ∨ (b.length : Int) ≤ i then (⟨0, 0⟩, 0, 2)
  else if getI b i / 4 < 1 ∨ 38 ≤ getI b i / 4 ∨ getI b i % 4 = 3 ∨ (0 < getI b i % 4 ∧ hasA (getI b i / 4) = false) then (⟨0, 0⟩, 0, 16)
  else if (b.length : Int) - i - 1 < getI b i % 4 then (⟨0, 0⟩, 0, 2)
  else if getI b i % 4 ≠ (bytesM (argD b (i + 1) (getI b i % 4)) : Int) ∧ getI b i / 4 ≠ 24 ∧ getI b i / 4 ≠ 25 then (⟨0, 0⟩, 0, 4)
  else (⟨getI b i / 4, argD b (i + 1) (getI b i % 4)⟩, i + 1 + getI b i % 4, 0)
theorem argB_len (n : Int) (k : Nat) (hk : k ≤ 2) : (argB n k).length = k := by
  match k, hk with
  | 0, _ => rfl
  | 1, _ => rfl
  | 2, _ => rfl
theorem bytesM_le (n : Int) : bytesM n ≤ 2 := by unfold bytesM; split; omega; split <;> omega
def jmp (o : Int) : Bool := decide (o = 24) || decide (o = 25)
abbrev Zl := List (GIns × Nat)
def lenP (p : GIns × Nat) : Nat := if p.1.Op = 38 then 0 else if jmp p.1.Op then 1 + p.2 else (encM p.1).length
def lenZ (z : Zl) : Nat := (z.map lenP).sum
def labAt : Zl → Int → Option Nat
  | [], _ => none
  | p :: z, n => if p.1.Op = 38 ∧ p.1.Arg = n then some 0 else (labAt z n).map (lenP p + ·)
def farZ (w : Zl) (n : Int) (at_ : Nat) : Int := ((labAt w n).getD 0 : Nat) - (at_ : Int)
def codeP (w : Zl) (k : Nat) (p : GIns × Nat) : List Int := if p.1.Op = 38 then [] else if jmp p.1.Op then encK p.1.Op (farZ w p.1.Arg (k + lenP p)) p.2 else encM p.1
def codeZ (w : Zl) : Nat → Zl → List Int
  | _, [] => []
  | k, p :: z => codeP w k p ++ codeZ w (k + lenP p) z
theorem codeZ_app (w : Zl) : ∀ (k : Nat) (a b : Zl), codeZ w k (a ++ b) = codeZ w k a ++ codeZ w (k + lenZ a) b
  | k, [], b => by simp [codeZ, lenZ]
  | k, p :: a, b => by
    rw [List.cons_append, codeZ, codeZ, codeZ_app w _ a b, List.append_assoc]
    simp only [lenZ, List.map_cons, List.sum_cons, Nat.add_assoc]
end Go.Ab

namespace Go.Ab
end Go.Ab

namespace Go.Ab
def int16B (n : Int) : Bool := decide (-32768 ≤ n) && decide (n ≤ 32767)
def wrongI (l a : List GIns) (x : GIns) : Int :=
  if jmp x.Op = true ∧ (labsL l).contains x.Arg = false then 11
  else if x.Op = 38 ∧ (labsL a).contains x.Arg = true then 10
  else if x.Op = 38 ∨ jmp x.Op = true then 0
  else if x.Op < 1 ∨ 38 < x.Op ∨ (hasA x.Op = false ∧ x.Arg ≠ 0) ∨ int16B x.Arg = false then 16
  else 0
def wrongF (l : List GIns) : List GIns → List GIns → Int
  | _, [] => 0
  | a, x :: r => if wrongI l a x = 0 then wrongF l (a ++ [x]) r else wrongI l a x
def wrongM (l : List GIns) : Int := wrongF l [] l
def fitsM (n : Int) : Nat := if int16B n then bytesM n else 3
def growI (z : Zl) (i : Nat) : Option Zl :=
  match z[i]? with
  | some p => if jmp p.1.Op = true ∧ p.2 < fitsM (farZ z p.1.Arg (lenZ (z.take (i + 1)))) then some (z.set i (p.1, fitsM (farZ z p.1.Arg (lenZ (z.take (i + 1)))))) else none
  | none => none
def passM : Nat → Nat → Zl → Bool → Zl × Bool
  | 0, _, z, b => (z, b)
  | n + 1, i, z, b => match growI z i with
    | some z' => passM n (i + 1) z' true
    | none => passM n (i + 1) z b
def sizesM : Nat → Zl → Option Zl
  | 0, _ => none
  | g + 1, z => if (passM z.length 0 z false).2 = true then sizesM g (passM z.length 0 z false).1 else some (passM z.length 0 z false).1
def zipZ (l : List GIns) : Zl := l.map fun i => (i, 0)
def asmM (l : List GIns) : List Int × Int :=
  if wrongM l ≠ 0 then ([], wrongM l)
  else match sizesM (3 * l.length + 1) (zipZ l) with
    | some z => if 65536 < lenZ z then ([], 3) else if z.any (fun p => jmp p.1.Op && decide (p.2 = 3)) = true then ([], 3) else (codeZ z 0 z, 0)
    | none => ([], 3)
theorem growI_fst {z z' : Zl} {i : Nat} (h : growI z i = some z') : z'.map Prod.fst = z.map Prod.fst := by
  unfold growI at h
  split at h
  · rename_i p hp
    split at h
    · simp only [Option.some.injEq] at h
      subst h
      rw [List.map_set]
      refine List.ext_getElem? fun k => ?_
      rw [List.getElem?_set]
      split
      · rename_i hk; subst hk
        have hi := (List.getElem?_eq_some_iff.1 hp).1
        simp only [List.length_map, hi, if_true, List.getElem?_map, hp, Option.map_some]
      · rfl
    · cases h
  · cases h
def szOk (p : GIns × Nat) : Prop := p.2 ≤ 3 ∧ (jmp p.1.Op = false → p.2 ≤ 2)
def szZ (z : Zl) : Nat := (z.map Prod.snd).sum
theorem fitsM_le (n : Int) : fitsM n ≤ 3 := by unfold fitsM; split; have := bytesM_le n; omega; omega
theorem set_sum : ∀ (l : List Nat) (i : Nat) (x : Nat) (h : i < l.length), (l.set i x).sum + l[i] = l.sum + x
  | y :: l, 0, x, _ => by simp; omega
  | y :: l, i + 1, x, h => by
    have := set_sum l i x (by simpa using h)
    simp only [List.set_cons_succ, List.sum_cons, List.getElem_cons_succ]; omega
theorem growI_sz {z z' : Zl} {i : Nat} (h : growI z i = some z') (h3 : ∀ p ∈ z, szOk p) : szZ z < szZ z' ∧ ∀ p ∈ z', szOk p := by
  unfold growI at h
  split at h
  · rename_i p hp
    obtain ⟨hi, he⟩ := List.getElem?_eq_some_iff.1 hp
    split at h
    · rename_i hc
      simp only [Option.some.injEq] at h
      subst h
      refine ⟨?_, ?_⟩
      · unfold szZ
        rw [List.map_set]
        have := set_sum (z.map Prod.snd) i (fitsM (farZ z p.1.Arg (lenZ (z.take (i + 1))))) (by simpa using hi)
        simp only [List.getElem_map, he] at this
        have h7 := hc.2
        simp only at this ⊢
        omega
      · intro q hq
        rcases List.mem_or_eq_of_mem_set hq with hq | hq
        · exact h3 q hq
        · rw [hq]; exact ⟨fitsM_le _, fun hh => by rw [hc.1] at hh; cases hh⟩
    · cases h
  · cases h
theorem passM_ok : ∀ (n i : Nat) (z : Zl) (b : Bool), (∀ p ∈ z, szOk p) → (passM n i z b).1.map Prod.fst = z.map Prod.fst ∧ (∀ p ∈ (passM n i z b).1, szOk p) ∧ szZ z ≤ szZ (passM n i z b).1 ∧
    ((passM n i z b).2 = true → b = true ∨ szZ z < szZ (passM n i z b).1) ∧ ((passM n i z b).2 = false → b = false ∧ (passM n i z b).1 = z ∧ ∀ j, i ≤ j → j < i + n → growI z j = none)
  | 0, i, z, b, h3 => by
    refine ⟨rfl, h3, Nat.le_refl _, fun h => Or.inl h, fun h => ⟨h, rfl, fun j h1 h2 => by omega⟩⟩
  | n + 1, i, z, b, h3 => by
    rw [passM]
    cases hg : growI z i with
    | none =>
      obtain ⟨a1, a2, a3, a4, a5⟩ := passM_ok n (i + 1) z b h3
      refine ⟨a1, a2, a3, a4, fun h => ?_⟩
      obtain ⟨b1, b2, b3⟩ := a5 h
      refine ⟨b1, b2, fun j h1 h2 => ?_⟩
      by_cases e : j = i
      · rw [e]; exact hg
      · exact b3 j (by omega) (by omega)
    | some z' =>
      obtain ⟨s1, s2⟩ := growI_sz hg h3
      obtain ⟨a1, a2, a3, a4, a5⟩ := passM_ok n (i + 1) z' true s2
      refine ⟨a1.trans (growI_fst hg), a2, by simp only; omega, fun _ => Or.inr (by simp only; omega), fun h => ?_⟩
      have := (a5 h).1
      cases this
theorem szZ_le : ∀ (z : Zl), (∀ p ∈ z, szOk p) → szZ z ≤ 3 * z.length
  | [], _ => by simp [szZ]
  | p :: z, h => by
    have h1 := szZ_le z (fun q hq => h q (by simp [hq]))
    have h2 := (h p (by simp)).1
    simp only [szZ, List.map_cons, List.sum_cons, List.length_cons] at h1 ⊢
    omega
theorem sizesM_ok : ∀ (g : Nat) (z : Zl), (∀ p ∈ z, szOk p) → 3 * z.length < g + szZ z → ∃ z', sizesM g z = some z' ∧ z'.map Prod.fst = z.map Prod.fst ∧ (∀ p ∈ z', szOk p) ∧ ∀ j, growI z' j = none
  | 0, z, h3, hg => by
    have := szZ_le z h3
    omega
  | g + 1, z, h3, hg => by
    obtain ⟨a1, a2, a3, a4, a5⟩ := passM_ok z.length 0 z false h3
    have hl : (passM z.length 0 z false).1.length = z.length := by
      have := congrArg List.length a1
      simpa using this
    rw [sizesM]
    by_cases hb : (passM z.length 0 z false).2 = true
    · rw [if_pos hb]
      have h4 := (a4 hb).resolve_left (by simp)
      obtain ⟨z', b1, b2, b3, b4⟩ := sizesM_ok g (passM z.length 0 z false).1 a2 (by rw [hl]; omega)
      exact ⟨z', b1, b2.trans a1, b3, b4⟩
    · rw [if_neg hb]
      obtain ⟨_, b2, b3⟩ := a5 (by simpa using hb)
      refine ⟨_, rfl, a1, a2, fun j => ?_⟩
      rw [b2]
      by_cases hj : j < z.length
      · exact b3 j (by omega) (by omega)
      · unfold growI
        rw [List.getElem?_eq_none (by omega)]
theorem wrongF_ok {l : List GIns} : ∀ (a r : List GIns), wrongF l a r = 0 → ∀ b x c, r = b ++ x :: c → wrongI l (a ++ b) x = 0
  | a, [], _, b, x, c, h => by simp at h
  | a, y :: r, h, b, x, c, hr => by
    rw [wrongF] at h
    split at h
    · rename_i hy
      cases b with
      | nil =>
        simp only [List.nil_append, List.cons.injEq] at hr
        rw [← hr.1, List.append_nil]; exact hy
      | cons z b =>
        simp only [List.cons_append, List.cons.injEq] at hr
        have := wrongF_ok (a ++ [y]) r h b x c hr.2
        rw [List.append_assoc] at this
        rw [hr.1] at this
        exact this
    · rename_i hy; exact (hy h).elim
theorem labAt_some : ∀ (z : Zl) (n : Int), n ∈ labsL (z.map Prod.fst) → (labAt z n).isSome
  | [], n, h => by simp [labsL] at h
  | p :: z, n, h => by
    rw [labAt]
    split
    · rfl
    · rename_i hp
      rw [Option.isSome_map]
      refine labAt_some z n ?_
      rw [mem_labsL] at h ⊢
      obtain ⟨i, h1, h2, h3⟩ := h
      rcases List.mem_cons.1 h1 with rfl | h1
      · exact (hp ⟨h2, h3⟩).elim
      · exact ⟨i, h1, h2, h3⟩
end Go.Ab

namespace Go.Ab
open Go.Proofs
@[simp] theorem GExpr.Args_mk (a b c : Int) (d : ByteArray) (l : List GExpr) : (GExpr.mk a b c d l).Args = l := rfl
@[simp] theorem GExpr.Kind_mk (a b c : Int) (d : ByteArray) (l : List GExpr) : (GExpr.mk a b c d l).Kind = a := rfl
@[simp] theorem GExpr.Op_mk (a b c : Int) (d : ByteArray) (l : List GExpr) : (GExpr.mk a b c d l).Op = b := rfl
@[simp] theorem GExpr.Num_mk (a b c : Int) (d : ByteArray) (l : List GExpr) : (GExpr.mk a b c d l).Num = c := rfl
@[simp] theorem GExpr.Name_mk (a b c : Int) (d : ByteArray) (l : List GExpr) : (GExpr.mk a b c d l).Name = d := rfl
theorem GExpr.lt_of_mem {e x : GExpr} (h : x ∈ e.Args) : SizeOf.sizeOf x < SizeOf.sizeOf e := by
  cases e with
  | mk a b c d l =>
    have := List.sizeOf_lt_of_mem (show x ∈ l from h)
    simp only [GExpr.mk.sizeOf_spec]
    omega
mutual
def fewM : GExpr → Int → Int
  | .mk _ _ _ _ l, m => fewsM l (m - 1)
def fewsM : List GExpr → Int → Int
  | [], m => m
  | x :: l, m => if m < 0 then m else fewsM l (fewM x m)
end
end Go.Ab

namespace Go.Ab
open Go.Proofs
mutual
def deepM : GExpr → Int → Int
  | .mk _ _ _ _ l, m => (if 1 < m then deepsM l (m - 1) 0 else 0) + 1
def deepsM : List GExpr → Int → Int → Int
  | [], _, n => n
  | x :: l, m, n => deepsM l m (if n < deepM x m then deepM x m else n)
end
theorem deepM_eq (e : GExpr) (m : Int) : deepM e m = (if 1 < m then deepsM e.Args (m - 1) 0 else 0) + 1 := by cases e; rw [deepM]; rfl
theorem deepsM_snoc (l : List GExpr) (x : GExpr) (m n : Int) : deepsM (l ++ [x]) m n = if deepsM l m n < deepM x m then deepM x m else deepsM l m n := by
  induction l generalizing n with
  | nil => simp only [List.nil_append, deepsM]; rfl
  | cons y l ih => simp only [List.cons_append, deepsM]; exact ih _
theorem deepM_le (e : GExpr) (m : Int) (hm : 1 ≤ m) : 1 ≤ deepM e m ∧ deepM e m ≤ m := by
  obtain ⟨n, hn⟩ : ∃ n, SizeOf.sizeOf e < n := ⟨_, Nat.lt_succ_self _⟩
  induction n generalizing e m with
  | zero => omega
  | succ n ih =>
    rw [deepM_eq]
    split
    · have : ∀ (l : List GExpr) (k : Int), (∀ x ∈ l, x ∈ e.Args) → 0 ≤ k → k ≤ m - 1 → 0 ≤ deepsM l (m - 1) k ∧ deepsM l (m - 1) k ≤ m - 1 := by
        intro l
        induction l with
        | nil => intro k _ h1 h2; rw [deepsM]; omega
        | cons x l ih' =>
          intro k hx h1 h2
          rw [deepsM]
          have := ih x (m - 1) (by omega) (by have := GExpr.lt_of_mem (hx x (by simp)); omega)
          apply ih' _ (fun y hy => hx y (by simp [hy]))
          · split <;> omega
          · split <;> omega
      have := this e.Args 0 (fun _ h => h) (by omega) (by omega)
      omega
    · omega
theorem deepsM_le (l : List GExpr) (m k : Int) (hm : 1 ≤ m) (h1 : 0 ≤ k) (h2 : k ≤ m) : 0 ≤ deepsM l m k ∧ deepsM l m k ≤ m := by
  induction l generalizing k with
  | nil => rw [deepsM]; omega
  | cons x l ih =>
    rw [deepsM]
    have := deepM_le x m hm
    apply ih
    · split <;> omega
    · split <;> omega
theorem deep_ok (e : GExpr) (he : e.wf) (m : Int) (hm : 1 ≤ m ∧ m ≤ 1000000000000) : Pure Tryz.prog 263 [.agg (e.enc.map .d), .d (.v (.int .i64 m))] (.d (.v (.int .i64 (deepM e m)))) := by
  obtain ⟨n, hn⟩ : ∃ n, SizeOf.sizeOf e < n := ⟨_, Nat.lt_succ_self _⟩
  induction n generalizing e m with
  | zero => omega
  | succ n ih =>
    have hw := (GExpr.wf_iff e).1 he
    have hlen : e.Args.length ≤ 2199023255488 := by omega
    have hsub : ∀ (i : Nat) (h : i < e.Args.length) m, 1 ≤ m ∧ m ≤ 1000000000000 → Pure Tryz.prog 263 [.agg ((e.Args[i]).enc.map .d), .d (.v (.int .i64 m))] (.d (.v (.int .i64 (deepM (e.Args[i]) m)))) := fun i h m hm =>
      ih _ (hw.2.2.2.2.2 _ (List.getElem_mem h)) m hm (by have := GExpr.lt_of_mem (List.getElem_mem h); omega)
    rw [deepM_eq]
    refine Pure.run Tryz.func263 rfl (by simp [Tryz.f263]) ?_; simp [Tryz.f263]
    generalize e.Args = l at *
    intro bs
    refine ⟨fun h1 => ?_, fun h1 => ?_⟩
    · refine AWP.loopS [1, 5, 12, 13, 14] l.length (fun i => [(5, .d (.v (.int .i64 (deepsM (l.take i) (m - 1) 0)))), (14, .d (.v (.int .i64 i)))]) (fun _ => []) (fun _ => True) (by rfl) (by simp [deepsM]) ?_
      intro i hi _
      rcases Nat.lt_or_eq_of_le hi with hlt | rfl
      · have hge : l[i]? = some l[i] := List.getElem?_eq_getElem hlt
        have htk : List.take (i + 1) l = List.take i l ++ [l[i]] := by rw [List.take_add_one, hge]; rfl
        have hS := hsub i hlt
        generalize hE : l[i] = x at *
        have a1 : inR .i64 (m - 1) := by rw [inR_i64]; omega
        have a2 : inR .i64 ((i : Int) + 1) := by rw [inR_i64]; omega
        have hsn := deepsM_snoc (l.take i) x (m - 1) 0
        rw [← htk] at hsn
        generalize hM : deepsM (l.take i) (m - 1) 0 = k at *
        simp [hlt, hge, hE]
        intro bs2
        refine ⟨a1, ?_⟩
        refine AOps.pureC rfl (hS (m - 1) ⟨by omega, by omega⟩) (by simp) rfl (by simp) rfl ?_
        simp [a2, hlt]
        refine ⟨fun h => ?_, fun h => ?_⟩
        · rw [hsn, if_pos h]
        · rw [hsn, if_neg (by omega)]
      · have := deepsM_le l (m - 1) 0 (by omega) (by omega) (by omega)
        simp [h1]
        rw [inR_i64]; omega
    · rw [if_neg (by omega)]; exact ⟨by rw [inR_i64]; omega, rfl⟩
def bareM (e : GExpr) (n : Int) (op num named : Bool) : Bool := decide ((e.Args.length : Int) = n) && (op || decide (e.Op = 0)) && (num || decide (e.Num = 0)) && (named || e.Name.toList.isEmpty)
theorem bare_ok (e : GExpr) (n : Int) (op num named : Bool) : Pure Tryz.prog 266 [.agg (e.enc.map .d), .d (.v (.int .i64 n)), .d (.v (.bool op)), .d (.v (.bool num)), .d (.v (.bool named))] (.d (.v (.bool (bareM e n op num named)))) := by
  refine Pure.run Tryz.func266 rfl (by simp [Tryz.f266]) ?_; simp [Tryz.f266]
  refine ⟨?_, ?_, ?_, rfl⟩ <;> simp +contextual
def amongM (n lo hi : Int) : Bool := decide (lo ≤ n) && decide (n ≤ hi)
theorem among_ok (n lo hi : Int) : Pure Tryz.prog 265 [.d (.v (.int .i64 n)), .d (.v (.int .i64 lo)), .d (.v (.int .i64 hi))] (.d (.v (.bool (amongM n lo hi)))) := by
  refine Pure.run Tryz.func265 rfl (by simp [Tryz.f265]) ?_; simp [Tryz.f265]
  rfl
def isM (n : Int) : Bool := decide (-32768 ≤ n) && decide (n ≤ 32767)
theorem isV_ok (n : Int) : Pure Tryz.prog 31 [.d (.v (.int .i64 n))] (.d (.v (.bool (isM n)))) := by
  refine Pure.run Tryz.func31 rfl (by simp [Tryz.f31]) ?_; simp [Tryz.f31]
  rfl
def paramsM (t : GTables) (f : Int) : Int := if amongM f 0 (t.Funcs.length - 1) && amongM (t.Funcs[f.toNat]?.getD 0) 0 (t.Params.length - 1) then t.Params[(t.Funcs[f.toNat]?.getD 0).toNat]?.getD 0 else -1
theorem params_ok (t : GTables) (ht : t.wf) (f : Int) : Pure Tryz.prog 267 [.agg (t.enc.map .d), .d (.v (.int .i64 f))] (.d (.v (.int .i64 (paramsM t f)))) := by
  refine Pure.run Tryz.func267 rfl (by simp [Tryz.f267]) ?_; simp [Tryz.f267]
  intro bs
  refine AWP.regionD [.d (.v (.bool (amongM f 0 (t.Funcs.length - 1)))), .d (.v (.bool (amongM (t.Funcs[f.toNat]?.getD 0) 0 (t.Params.length - 1))))] Tryz.mixed (by kernel_rfl) (by rfl) ?_
  have hA := fun a b c L => (among_ok a b c).ok L
  have hl1 := GTables.wl_Funcs ht
  have hl2 := GTables.wl_Params ht
  have a1 : inR .i64 ((t.Funcs.length : Int) - 1) := by rw [inR_i64]; omega
  have a2 : inR .i64 ((t.Params.length : Int) - 1) := by rw [inR_i64]; omega
  have hk : amongM f 0 (t.Funcs.length - 1) = true → 0 ≤ f ∧ f.toNat < t.Funcs.length := by simp [amongM]; omega
  have hk2 : amongM (t.Funcs[f.toNat]?.getD 0) 0 (t.Params.length - 1) = true → 0 ≤ t.Funcs[f.toNat]?.getD 0 ∧ (t.Funcs[f.toNat]?.getD 0).toNat < t.Params.length := by simp [amongM]; omega
  unfold paramsM
  simp [hA, a1, a2]
  refine ⟨fun h => ⟨hk h, h⟩, fun h h1 h2 => ?_, fun h1 h2 => ?_⟩
  · simp [h1, h2] at h
  · refine AWP.regionD [] Tryz.mixed (by kernel_rfl) (by rfl) ?_
    simp [h1, h2]
    exact ⟨hk h1, hk2 h2⟩
def boundK (t : GTables) (e : GExpr) (locals : Int) (said : Bool) : Bool :=
  if e.Kind = 1 then bareM e 0 false true false && isM e.Num
  else if e.Kind = 14 then bareM e 0 false true false && amongM e.Num 0 (t.Globals.length - 1)
  else if e.Kind = 15 then bareM e 0 false true false && decide (0 ≤ e.Num) && decide (e.Num < locals)
  else if e.Kind = 19 then said && bareM e 0 false true false && amongM e.Num 0 (t.Texts.length - 1)
  else if e.Kind = 4 ∨ e.Kind = 5 ∨ e.Kind = 11 then bareM e 1 false false false
  else if e.Kind = 13 then said && bareM e 1 false false false
  else if e.Kind = 6 then bareM e 2 true false false && amongM e.Op 1 14
  else if e.Kind = 16 then bareM e 1 false true false && decide (0 ≤ e.Num) && decide (e.Num < t.Flags)
  else if e.Kind = 17 then bareM e 1 false true false && amongM e.Num 0 (t.Props.length - 1)
  else if e.Kind = 18 then bareM e e.Args.length false true false && decide (paramsM t e.Num = e.Args.length)
  else if e.Kind = 10 then bareM e 1 true false false && amongM e.Op 1 3
  else if e.Kind = 12 then bareM e 0 true false false && amongM e.Op 1 6
  else false
mutual
def boundM (t : GTables) (locals : Int) : GExpr → Bool → Bool
  | .mk k o n s l, said => boundK t (.mk k o n s l) locals said && boundsM t locals l
def boundsM (t : GTables) (locals : Int) : List GExpr → Bool
  | [] => true
  | x :: l => boundM t locals x false && boundsM t locals l
end
theorem boundM_eq (t : GTables) (locals : Int) (e : GExpr) (said : Bool) : boundM t locals e said = (boundK t e locals said && boundsM t locals e.Args) := by cases e; rw [boundM]; rfl
theorem boundsM_all (t : GTables) (locals : Int) (l : List GExpr) : boundsM t locals l = l.all fun x => boundM t locals x false := by
  induction l with
  | nil => rw [boundsM]; rfl
  | cons x l ih => rw [boundsM, ih]; rfl
set_option maxRecDepth 20000 in
set_option maxHeartbeats 4000000 in
theorem boundX_ok (t : GTables) (ht : t.wf) (locals : Int) (e : GExpr) (he : e.wf) (said : Bool) : Pure Tryz.prog 206 [.agg (t.enc.map .d), .agg (e.enc.map .d), .d (.v (.int .i64 locals)), .d (.v (.bool said))] (.d (.v (.bool (boundM t locals e said)))) := by
  obtain ⟨n, hn⟩ : ∃ n, SizeOf.sizeOf e < n := ⟨_, Nat.lt_succ_self _⟩
  induction n generalizing e said with
  | zero => omega
  | succ n ih =>
    have hw := (GExpr.wf_iff e).1 he
    have hlen : e.Args.length ≤ 2199023255488 := by omega
    have hsub : ∀ (i : Nat) (h : i < e.Args.length) said, Pure Tryz.prog 206 [.agg (t.enc.map .d), .agg ((e.Args[i]).enc.map .d), .d (.v (.int .i64 locals)), .d (.v (.bool said))] (.d (.v (.bool (boundM t locals (e.Args[i]) said)))) := fun i h said =>
      ih _ (hw.2.2.2.2.2 _ (List.getElem_mem h)) said (by have := GExpr.lt_of_mem (List.getElem_mem h); omega)
    rw [boundM_eq]
    have hA := fun a b c L => (among_ok a b c).ok L
    have hI := fun a L => (isV_ok a).ok L
    have hB := fun n a b c L => (bare_ok e n a b c).ok L
    have hP := fun f L => (params_ok t ht f).ok L
    have b1 := GTables.wl_Globals ht
    have b2 := GTables.wl_Texts ht
    have b3 := GTables.wl_Props ht
    have a1 : inR .i64 ((t.Globals.length : Int) - 1) := by rw [inR_i64]; omega
    have a2 : inR .i64 ((t.Texts.length : Int) - 1) := by rw [inR_i64]; omega
    have a3 : inR .i64 ((t.Props.length : Int) - 1) := by rw [inR_i64]; omega
    by_cases hk1 : e.Kind = 1
    · have hk := hk1; clear hk1
      have hK : boundK t e locals said = boundK t e locals said := rfl
      conv at hK => rhs; unfold boundK
      simp [hk] at hK
      refine Pure.run Tryz.func206 rfl (by simp [Tryz.f206]) ?_; simp [Tryz.f206, hk]
      intro bs
      refine runC_sound _ _ [.d (.v (.bool (bareM e 0 false true false))), .d (.v (.bool (isM e.Num)))] (by rfl) ?_
      simp [hA, hB, hI, hP, a1, a2, a3]
      refine AWP.loopS [2, 4, 9, 154, 155, 156] e.Args.length (fun i => [(9, .d (.v (.bool (boundK t e locals said && boundsM t locals (e.Args.take i))))), (156, .d (.v (.int .i64 i)))]) (fun _ => []) (fun _ => True) (by rfl) (by simp [hK, boundsM]) ?_
      clear hK hA hI hB hP a1 a2 a3 b1 b2 b3
      generalize boundK t e locals said = b
      intro i hi _
      rcases Nat.lt_or_eq_of_le hi with hlt | rfl
      · have hge : e.Args[i]? = some e.Args[i] := List.getElem?_eq_getElem hlt
        have htk : boundsM t locals (e.Args.take (i + 1)) = (boundsM t locals (e.Args.take i) && boundM t locals e.Args[i] false) := by
          rw [List.take_add_one, hge, boundsM_all, boundsM_all, List.all_append]; simp
        have hS := fun L => (hsub i hlt false).ok L
        have a2 : inR .i64 ((i : Int) + 1) := by rw [inR_i64]; omega
        generalize hE : e.Args[i] = x at *
        simp [hlt, hge, hE]
        intro bs2
        refine runC_sound _ _ [.d (.v (.bool (boundM t locals x false)))] (by rfl) ?_
        simp [hS, a2, hlt, hE, htk, Bool.and_assoc] <;> (intro h1 h2; first | exact ⟨h1, h2⟩ | exact ⟨⟨h1, h2⟩, hS _⟩)
      · simp
    by_cases hk14 : e.Kind = 14
    · have hk := hk14; clear hk1 hk14
      have hK : boundK t e locals said = boundK t e locals said := rfl
      conv at hK => rhs; unfold boundK
      simp [hk] at hK
      refine Pure.run Tryz.func206 rfl (by simp [Tryz.f206]) ?_; simp [Tryz.f206, hk]
      intro bs
      refine runC_sound _ _ [.d (.v (.bool (bareM e 0 false true false))), .d (.v (.bool (amongM e.Num 0 (t.Globals.length - 1))))] (by rfl) ?_
      simp [hA, hB, hI, hP, a1, a2, a3]
      refine AWP.loopS [2, 4, 9, 154, 155, 156] e.Args.length (fun i => [(9, .d (.v (.bool (boundK t e locals said && boundsM t locals (e.Args.take i))))), (156, .d (.v (.int .i64 i)))]) (fun _ => []) (fun _ => True) (by rfl) (by simp [hK, boundsM]) ?_
      clear hK hA hI hB hP a1 a2 a3 b1 b2 b3
      generalize boundK t e locals said = b
      intro i hi _
      rcases Nat.lt_or_eq_of_le hi with hlt | rfl
      · have hge : e.Args[i]? = some e.Args[i] := List.getElem?_eq_getElem hlt
        have htk : boundsM t locals (e.Args.take (i + 1)) = (boundsM t locals (e.Args.take i) && boundM t locals e.Args[i] false) := by
          rw [List.take_add_one, hge, boundsM_all, boundsM_all, List.all_append]; simp
        have hS := fun L => (hsub i hlt false).ok L
        have a2 : inR .i64 ((i : Int) + 1) := by rw [inR_i64]; omega
        generalize hE : e.Args[i] = x at *
        simp [hlt, hge, hE]
        intro bs2
        refine runC_sound _ _ [.d (.v (.bool (boundM t locals x false)))] (by rfl) ?_
        simp [hS, a2, hlt, hE, htk, Bool.and_assoc] <;> (intro h1 h2; first | exact ⟨h1, h2⟩ | exact ⟨⟨h1, h2⟩, hS _⟩)
      · simp
    by_cases hk15 : e.Kind = 15
    · have hk := hk15; clear hk1 hk14 hk15
      have hK : boundK t e locals said = boundK t e locals said := rfl
      conv at hK => rhs; unfold boundK
      simp [hk] at hK
      refine Pure.run Tryz.func206 rfl (by simp [Tryz.f206]) ?_; simp [Tryz.f206, hk]
      intro bs
      refine runC_sound _ _ [.d (.v (.bool (bareM e 0 false true false)))] (by rfl) ?_
      simp [hA, hB, hI, hP, a1, a2, a3]
      refine AWP.loopS [2, 4, 9, 154, 155, 156] e.Args.length (fun i => [(9, .d (.v (.bool (boundK t e locals said && boundsM t locals (e.Args.take i))))), (156, .d (.v (.int .i64 i)))]) (fun _ => []) (fun _ => True) (by rfl) (by simp [hK, boundsM]) ?_
      clear hK hA hI hB hP a1 a2 a3 b1 b2 b3
      generalize boundK t e locals said = b
      intro i hi _
      rcases Nat.lt_or_eq_of_le hi with hlt | rfl
      · have hge : e.Args[i]? = some e.Args[i] := List.getElem?_eq_getElem hlt
        have htk : boundsM t locals (e.Args.take (i + 1)) = (boundsM t locals (e.Args.take i) && boundM t locals e.Args[i] false) := by
          rw [List.take_add_one, hge, boundsM_all, boundsM_all, List.all_append]; simp
        have hS := fun L => (hsub i hlt false).ok L
        have a2 : inR .i64 ((i : Int) + 1) := by rw [inR_i64]; omega
        generalize hE : e.Args[i] = x at *
        simp [hlt, hge, hE]
        intro bs2
        refine runC_sound _ _ [.d (.v (.bool (boundM t locals x false)))] (by rfl) ?_
        simp [hS, a2, hlt, hE, htk, Bool.and_assoc] <;> (intro h1 h2; first | exact ⟨h1, h2⟩ | exact ⟨⟨h1, h2⟩, hS _⟩)
      · simp
    by_cases hk19 : e.Kind = 19
    · have hk := hk19; clear hk1 hk14 hk15 hk19
      have hK : boundK t e locals said = boundK t e locals said := rfl
      conv at hK => rhs; unfold boundK
      simp [hk] at hK
      refine Pure.run Tryz.func206 rfl (by simp [Tryz.f206]) ?_; simp [Tryz.f206, hk]
      intro bs
      refine runC_sound _ _ [.d (.v (.bool (bareM e 0 false true false))), .d (.v (.bool (amongM e.Num 0 (t.Texts.length - 1))))] (by rfl) ?_
      simp [hA, hB, hI, hP, a1, a2, a3]
      refine AWP.loopS [2, 4, 9, 154, 155, 156] e.Args.length (fun i => [(9, .d (.v (.bool (boundK t e locals said && boundsM t locals (e.Args.take i))))), (156, .d (.v (.int .i64 i)))]) (fun _ => []) (fun _ => True) (by rfl) (by simp [hK, boundsM]) ?_
      clear hK hA hI hB hP a1 a2 a3 b1 b2 b3
      generalize boundK t e locals said = b
      intro i hi _
      rcases Nat.lt_or_eq_of_le hi with hlt | rfl
      · have hge : e.Args[i]? = some e.Args[i] := List.getElem?_eq_getElem hlt
        have htk : boundsM t locals (e.Args.take (i + 1)) = (boundsM t locals (e.Args.take i) && boundM t locals e.Args[i] false) := by
          rw [List.take_add_one, hge, boundsM_all, boundsM_all, List.all_append]; simp
        have hS := fun L => (hsub i hlt false).ok L
        have a2 : inR .i64 ((i : Int) + 1) := by rw [inR_i64]; omega
        generalize hE : e.Args[i] = x at *
        simp [hlt, hge, hE]
        intro bs2
        refine runC_sound _ _ [.d (.v (.bool (boundM t locals x false)))] (by rfl) ?_
        simp [hS, a2, hlt, hE, htk, Bool.and_assoc] <;> (intro h1 h2; first | exact ⟨h1, h2⟩ | exact ⟨⟨h1, h2⟩, hS _⟩)
      · simp
    by_cases hk4 : e.Kind = 4
    · have hk := hk4; clear hk1 hk14 hk15 hk19 hk4
      have hK : boundK t e locals said = boundK t e locals said := rfl
      conv at hK => rhs; unfold boundK
      simp [hk] at hK
      refine Pure.run Tryz.func206 rfl (by simp [Tryz.f206]) ?_; simp [Tryz.f206, hk]
      intro bs
      refine runC_sound _ _ [.d (.v (.bool (bareM e 1 false false false)))] (by rfl) ?_
      simp [hA, hB, hI, hP, a1, a2, a3]
      refine AWP.loopS [2, 4, 9, 154, 155, 156] e.Args.length (fun i => [(9, .d (.v (.bool (boundK t e locals said && boundsM t locals (e.Args.take i))))), (156, .d (.v (.int .i64 i)))]) (fun _ => []) (fun _ => True) (by rfl) (by simp [hK, boundsM]) ?_
      clear hK hA hI hB hP a1 a2 a3 b1 b2 b3
      generalize boundK t e locals said = b
      intro i hi _
      rcases Nat.lt_or_eq_of_le hi with hlt | rfl
      · have hge : e.Args[i]? = some e.Args[i] := List.getElem?_eq_getElem hlt
        have htk : boundsM t locals (e.Args.take (i + 1)) = (boundsM t locals (e.Args.take i) && boundM t locals e.Args[i] false) := by
          rw [List.take_add_one, hge, boundsM_all, boundsM_all, List.all_append]; simp
        have hS := fun L => (hsub i hlt false).ok L
        have a2 : inR .i64 ((i : Int) + 1) := by rw [inR_i64]; omega
        generalize hE : e.Args[i] = x at *
        simp [hlt, hge, hE]
        intro bs2
        refine runC_sound _ _ [.d (.v (.bool (boundM t locals x false)))] (by rfl) ?_
        simp [hS, a2, hlt, hE, htk, Bool.and_assoc] <;> (intro h1 h2; first | exact ⟨h1, h2⟩ | exact ⟨⟨h1, h2⟩, hS _⟩)
      · simp
    by_cases hk5 : e.Kind = 5
    · have hk := hk5; clear hk1 hk14 hk15 hk19 hk4 hk5
      have hK : boundK t e locals said = boundK t e locals said := rfl
      conv at hK => rhs; unfold boundK
      simp [hk] at hK
      refine Pure.run Tryz.func206 rfl (by simp [Tryz.f206]) ?_; simp [Tryz.f206, hk]
      intro bs
      refine runC_sound _ _ [.d (.v (.bool (bareM e 1 false false false)))] (by rfl) ?_
      simp [hA, hB, hI, hP, a1, a2, a3]
      refine AWP.loopS [2, 4, 9, 154, 155, 156] e.Args.length (fun i => [(9, .d (.v (.bool (boundK t e locals said && boundsM t locals (e.Args.take i))))), (156, .d (.v (.int .i64 i)))]) (fun _ => []) (fun _ => True) (by rfl) (by simp [hK, boundsM]) ?_
      clear hK hA hI hB hP a1 a2 a3 b1 b2 b3
      generalize boundK t e locals said = b
      intro i hi _
      rcases Nat.lt_or_eq_of_le hi with hlt | rfl
      · have hge : e.Args[i]? = some e.Args[i] := List.getElem?_eq_getElem hlt
        have htk : boundsM t locals (e.Args.take (i + 1)) = (boundsM t locals (e.Args.take i) && boundM t locals e.Args[i] false) := by
          rw [List.take_add_one, hge, boundsM_all, boundsM_all, List.all_append]; simp
        have hS := fun L => (hsub i hlt false).ok L
        have a2 : inR .i64 ((i : Int) + 1) := by rw [inR_i64]; omega
        generalize hE : e.Args[i] = x at *
        simp [hlt, hge, hE]
        intro bs2
        refine runC_sound _ _ [.d (.v (.bool (boundM t locals x false)))] (by rfl) ?_
        simp [hS, a2, hlt, hE, htk, Bool.and_assoc] <;> (intro h1 h2; first | exact ⟨h1, h2⟩ | exact ⟨⟨h1, h2⟩, hS _⟩)
      · simp
    by_cases hk11 : e.Kind = 11
    · have hk := hk11; clear hk1 hk14 hk15 hk19 hk4 hk5 hk11
      have hK : boundK t e locals said = boundK t e locals said := rfl
      conv at hK => rhs; unfold boundK
      simp [hk] at hK
      refine Pure.run Tryz.func206 rfl (by simp [Tryz.f206]) ?_; simp [Tryz.f206, hk]
      intro bs
      refine runC_sound _ _ [.d (.v (.bool (bareM e 1 false false false)))] (by rfl) ?_
      simp [hA, hB, hI, hP, a1, a2, a3]
      refine AWP.loopS [2, 4, 9, 154, 155, 156] e.Args.length (fun i => [(9, .d (.v (.bool (boundK t e locals said && boundsM t locals (e.Args.take i))))), (156, .d (.v (.int .i64 i)))]) (fun _ => []) (fun _ => True) (by rfl) (by simp [hK, boundsM]) ?_
      clear hK hA hI hB hP a1 a2 a3 b1 b2 b3
      generalize boundK t e locals said = b
      intro i hi _
      rcases Nat.lt_or_eq_of_le hi with hlt | rfl
      · have hge : e.Args[i]? = some e.Args[i] := List.getElem?_eq_getElem hlt
        have htk : boundsM t locals (e.Args.take (i + 1)) = (boundsM t locals (e.Args.take i) && boundM t locals e.Args[i] false) := by
          rw [List.take_add_one, hge, boundsM_all, boundsM_all, List.all_append]; simp
        have hS := fun L => (hsub i hlt false).ok L
        have a2 : inR .i64 ((i : Int) + 1) := by rw [inR_i64]; omega
        generalize hE : e.Args[i] = x at *
        simp [hlt, hge, hE]
        intro bs2
        refine runC_sound _ _ [.d (.v (.bool (boundM t locals x false)))] (by rfl) ?_
        simp [hS, a2, hlt, hE, htk, Bool.and_assoc] <;> (intro h1 h2; first | exact ⟨h1, h2⟩ | exact ⟨⟨h1, h2⟩, hS _⟩)
      · simp
    by_cases hk13 : e.Kind = 13
    · have hk := hk13; clear hk1 hk14 hk15 hk19 hk4 hk5 hk11 hk13
      have hK : boundK t e locals said = boundK t e locals said := rfl
      conv at hK => rhs; unfold boundK
      simp [hk] at hK
      refine Pure.run Tryz.func206 rfl (by simp [Tryz.f206]) ?_; simp [Tryz.f206, hk]
      intro bs
      refine runC_sound _ _ [.d (.v (.bool (bareM e 1 false false false)))] (by rfl) ?_
      simp [hA, hB, hI, hP, a1, a2, a3]
      refine AWP.loopS [2, 4, 9, 154, 155, 156] e.Args.length (fun i => [(9, .d (.v (.bool (boundK t e locals said && boundsM t locals (e.Args.take i))))), (156, .d (.v (.int .i64 i)))]) (fun _ => []) (fun _ => True) (by rfl) (by simp [hK, boundsM]) ?_
      clear hK hA hI hB hP a1 a2 a3 b1 b2 b3
      generalize boundK t e locals said = b
      intro i hi _
      rcases Nat.lt_or_eq_of_le hi with hlt | rfl
      · have hge : e.Args[i]? = some e.Args[i] := List.getElem?_eq_getElem hlt
        have htk : boundsM t locals (e.Args.take (i + 1)) = (boundsM t locals (e.Args.take i) && boundM t locals e.Args[i] false) := by
          rw [List.take_add_one, hge, boundsM_all, boundsM_all, List.all_append]; simp
        have hS := fun L => (hsub i hlt false).ok L
        have a2 : inR .i64 ((i : Int) + 1) := by rw [inR_i64]; omega
        generalize hE : e.Args[i] = x at *
        simp [hlt, hge, hE]
        intro bs2
        refine runC_sound _ _ [.d (.v (.bool (boundM t locals x false)))] (by rfl) ?_
        simp [hS, a2, hlt, hE, htk, Bool.and_assoc] <;> (intro h1 h2; first | exact ⟨h1, h2⟩ | exact ⟨⟨h1, h2⟩, hS _⟩)
      · simp
    by_cases hk6 : e.Kind = 6
    · have hk := hk6; clear hk1 hk14 hk15 hk19 hk4 hk5 hk11 hk13 hk6
      have hK : boundK t e locals said = boundK t e locals said := rfl
      conv at hK => rhs; unfold boundK
      simp [hk] at hK
      refine Pure.run Tryz.func206 rfl (by simp [Tryz.f206]) ?_; simp [Tryz.f206, hk]
      intro bs
      refine runC_sound _ _ [.d (.v (.bool (bareM e 2 true false false))), .d (.v (.bool (amongM e.Op 1 14)))] (by rfl) ?_
      simp [hA, hB, hI, hP, a1, a2, a3]
      refine AWP.loopS [2, 4, 9, 154, 155, 156] e.Args.length (fun i => [(9, .d (.v (.bool (boundK t e locals said && boundsM t locals (e.Args.take i))))), (156, .d (.v (.int .i64 i)))]) (fun _ => []) (fun _ => True) (by rfl) (by simp [hK, boundsM]) ?_
      clear hK hA hI hB hP a1 a2 a3 b1 b2 b3
      generalize boundK t e locals said = b
      intro i hi _
      rcases Nat.lt_or_eq_of_le hi with hlt | rfl
      · have hge : e.Args[i]? = some e.Args[i] := List.getElem?_eq_getElem hlt
        have htk : boundsM t locals (e.Args.take (i + 1)) = (boundsM t locals (e.Args.take i) && boundM t locals e.Args[i] false) := by
          rw [List.take_add_one, hge, boundsM_all, boundsM_all, List.all_append]; simp
        have hS := fun L => (hsub i hlt false).ok L
        have a2 : inR .i64 ((i : Int) + 1) := by rw [inR_i64]; omega
        generalize hE : e.Args[i] = x at *
        simp [hlt, hge, hE]
        intro bs2
        refine runC_sound _ _ [.d (.v (.bool (boundM t locals x false)))] (by rfl) ?_
        simp [hS, a2, hlt, hE, htk, Bool.and_assoc] <;> (intro h1 h2; first | exact ⟨h1, h2⟩ | exact ⟨⟨h1, h2⟩, hS _⟩)
      · simp
    by_cases hk16 : e.Kind = 16
    · have hk := hk16; clear hk1 hk14 hk15 hk19 hk4 hk5 hk11 hk13 hk6 hk16
      have hK : boundK t e locals said = boundK t e locals said := rfl
      conv at hK => rhs; unfold boundK
      simp [hk] at hK
      refine Pure.run Tryz.func206 rfl (by simp [Tryz.f206]) ?_; simp [Tryz.f206, hk]
      intro bs
      refine runC_sound _ _ [.d (.v (.bool (bareM e 1 false true false)))] (by rfl) ?_
      simp [hA, hB, hI, hP, a1, a2, a3]
      refine AWP.loopS [2, 4, 9, 154, 155, 156] e.Args.length (fun i => [(9, .d (.v (.bool (boundK t e locals said && boundsM t locals (e.Args.take i))))), (156, .d (.v (.int .i64 i)))]) (fun _ => []) (fun _ => True) (by rfl) (by simp [hK, boundsM]) ?_
      clear hK hA hI hB hP a1 a2 a3 b1 b2 b3
      generalize boundK t e locals said = b
      intro i hi _
      rcases Nat.lt_or_eq_of_le hi with hlt | rfl
      · have hge : e.Args[i]? = some e.Args[i] := List.getElem?_eq_getElem hlt
        have htk : boundsM t locals (e.Args.take (i + 1)) = (boundsM t locals (e.Args.take i) && boundM t locals e.Args[i] false) := by
          rw [List.take_add_one, hge, boundsM_all, boundsM_all, List.all_append]; simp
        have hS := fun L => (hsub i hlt false).ok L
        have a2 : inR .i64 ((i : Int) + 1) := by rw [inR_i64]; omega
        generalize hE : e.Args[i] = x at *
        simp [hlt, hge, hE]
        intro bs2
        refine runC_sound _ _ [.d (.v (.bool (boundM t locals x false)))] (by rfl) ?_
        simp [hS, a2, hlt, hE, htk, Bool.and_assoc] <;> (intro h1 h2; first | exact ⟨h1, h2⟩ | exact ⟨⟨h1, h2⟩, hS _⟩)
      · simp
    by_cases hk17 : e.Kind = 17
    · have hk := hk17; clear hk1 hk14 hk15 hk19 hk4 hk5 hk11 hk13 hk6 hk16 hk17
      have hK : boundK t e locals said = boundK t e locals said := rfl
      conv at hK => rhs; unfold boundK
      simp [hk] at hK
      refine Pure.run Tryz.func206 rfl (by simp [Tryz.f206]) ?_; simp [Tryz.f206, hk]
      intro bs
      refine runC_sound _ _ [.d (.v (.bool (bareM e 1 false true false))), .d (.v (.bool (amongM e.Num 0 (t.Props.length - 1))))] (by rfl) ?_
      simp [hA, hB, hI, hP, a1, a2, a3]
      refine AWP.loopS [2, 4, 9, 154, 155, 156] e.Args.length (fun i => [(9, .d (.v (.bool (boundK t e locals said && boundsM t locals (e.Args.take i))))), (156, .d (.v (.int .i64 i)))]) (fun _ => []) (fun _ => True) (by rfl) (by simp [hK, boundsM]) ?_
      clear hK hA hI hB hP a1 a2 a3 b1 b2 b3
      generalize boundK t e locals said = b
      intro i hi _
      rcases Nat.lt_or_eq_of_le hi with hlt | rfl
      · have hge : e.Args[i]? = some e.Args[i] := List.getElem?_eq_getElem hlt
        have htk : boundsM t locals (e.Args.take (i + 1)) = (boundsM t locals (e.Args.take i) && boundM t locals e.Args[i] false) := by
          rw [List.take_add_one, hge, boundsM_all, boundsM_all, List.all_append]; simp
        have hS := fun L => (hsub i hlt false).ok L
        have a2 : inR .i64 ((i : Int) + 1) := by rw [inR_i64]; omega
        generalize hE : e.Args[i] = x at *
        simp [hlt, hge, hE]
        intro bs2
        refine runC_sound _ _ [.d (.v (.bool (boundM t locals x false)))] (by rfl) ?_
        simp [hS, a2, hlt, hE, htk, Bool.and_assoc] <;> (intro h1 h2; first | exact ⟨h1, h2⟩ | exact ⟨⟨h1, h2⟩, hS _⟩)
      · simp
    by_cases hk18 : e.Kind = 18
    · have hk := hk18; clear hk1 hk14 hk15 hk19 hk4 hk5 hk11 hk13 hk6 hk16 hk17 hk18
      have hK : boundK t e locals said = boundK t e locals said := rfl
      conv at hK => rhs; unfold boundK
      simp [hk] at hK
      refine Pure.run Tryz.func206 rfl (by simp [Tryz.f206]) ?_; simp [Tryz.f206, hk]
      intro bs
      refine AWP.regionD [.d (.v (.bool (bareM e e.Args.length false true false))), .d (.v (.int .i64 (paramsM t e.Num)))] Tryz.mixed (by kernel_rfl) (by rfl) ?_
      simp [hA, hB, hI, hP, a1, a2, a3]
      refine AWP.loopS [2, 4, 9, 154, 155, 156] e.Args.length (fun i => [(9, .d (.v (.bool (boundK t e locals said && boundsM t locals (e.Args.take i))))), (156, .d (.v (.int .i64 i)))]) (fun _ => []) (fun _ => True) (by rfl) (by simp [hK, boundsM]; try rfl) ?_
      clear hK hA hI hB hP a1 a2 a3 b1 b2 b3
      generalize boundK t e locals said = b
      intro i hi _
      rcases Nat.lt_or_eq_of_le hi with hlt | rfl
      · have hge : e.Args[i]? = some e.Args[i] := List.getElem?_eq_getElem hlt
        have htk : boundsM t locals (e.Args.take (i + 1)) = (boundsM t locals (e.Args.take i) && boundM t locals e.Args[i] false) := by
          rw [List.take_add_one, hge, boundsM_all, boundsM_all, List.all_append]; simp
        have hS := fun L => (hsub i hlt false).ok L
        have a2 : inR .i64 ((i : Int) + 1) := by rw [inR_i64]; omega
        generalize hE : e.Args[i] = x at *
        simp [hlt, hge, hE]
        intro bs2
        refine runC_sound _ _ [.d (.v (.bool (boundM t locals x false)))] (by rfl) ?_
        simp [hS, a2, hlt, hE, htk, Bool.and_assoc] <;> (intro h1 h2; first | exact ⟨h1, h2⟩ | exact ⟨⟨h1, h2⟩, hS _⟩)
      · simp
    by_cases hk10 : e.Kind = 10
    · have hk := hk10; clear hk1 hk14 hk15 hk19 hk4 hk5 hk11 hk13 hk6 hk16 hk17 hk18 hk10
      have hK : boundK t e locals said = boundK t e locals said := rfl
      conv at hK => rhs; unfold boundK
      simp [hk] at hK
      refine Pure.run Tryz.func206 rfl (by simp [Tryz.f206]) ?_; simp [Tryz.f206, hk]
      intro bs
      refine runC_sound _ _ [.d (.v (.bool (bareM e 1 true false false))), .d (.v (.bool (amongM e.Op 1 3)))] (by rfl) ?_
      simp [hA, hB, hI, hP, a1, a2, a3]
      refine AWP.loopS [2, 4, 9, 154, 155, 156] e.Args.length (fun i => [(9, .d (.v (.bool (boundK t e locals said && boundsM t locals (e.Args.take i))))), (156, .d (.v (.int .i64 i)))]) (fun _ => []) (fun _ => True) (by rfl) (by simp [hK, boundsM]) ?_
      clear hK hA hI hB hP a1 a2 a3 b1 b2 b3
      generalize boundK t e locals said = b
      intro i hi _
      rcases Nat.lt_or_eq_of_le hi with hlt | rfl
      · have hge : e.Args[i]? = some e.Args[i] := List.getElem?_eq_getElem hlt
        have htk : boundsM t locals (e.Args.take (i + 1)) = (boundsM t locals (e.Args.take i) && boundM t locals e.Args[i] false) := by
          rw [List.take_add_one, hge, boundsM_all, boundsM_all, List.all_append]; simp
        have hS := fun L => (hsub i hlt false).ok L
        have a2 : inR .i64 ((i : Int) + 1) := by rw [inR_i64]; omega
        generalize hE : e.Args[i] = x at *
        simp [hlt, hge, hE]
        intro bs2
        refine runC_sound _ _ [.d (.v (.bool (boundM t locals x false)))] (by rfl) ?_
        simp [hS, a2, hlt, hE, htk, Bool.and_assoc] <;> (intro h1 h2; first | exact ⟨h1, h2⟩ | exact ⟨⟨h1, h2⟩, hS _⟩)
      · simp
    by_cases hk12 : e.Kind = 12
    · have hk := hk12; clear hk1 hk14 hk15 hk19 hk4 hk5 hk11 hk13 hk6 hk16 hk17 hk18 hk10 hk12
      have hK : boundK t e locals said = boundK t e locals said := rfl
      conv at hK => rhs; unfold boundK
      simp [hk] at hK
      refine Pure.run Tryz.func206 rfl (by simp [Tryz.f206]) ?_; simp [Tryz.f206, hk]
      intro bs
      refine runC_sound _ _ [.d (.v (.bool (bareM e 0 true false false))), .d (.v (.bool (amongM e.Op 1 6)))] (by rfl) ?_
      simp [hA, hB, hI, hP, a1, a2, a3]
      refine AWP.loopS [2, 4, 9, 154, 155, 156] e.Args.length (fun i => [(9, .d (.v (.bool (boundK t e locals said && boundsM t locals (e.Args.take i))))), (156, .d (.v (.int .i64 i)))]) (fun _ => []) (fun _ => True) (by rfl) (by simp [hK, boundsM]) ?_
      clear hK hA hI hB hP a1 a2 a3 b1 b2 b3
      generalize boundK t e locals said = b
      intro i hi _
      rcases Nat.lt_or_eq_of_le hi with hlt | rfl
      · have hge : e.Args[i]? = some e.Args[i] := List.getElem?_eq_getElem hlt
        have htk : boundsM t locals (e.Args.take (i + 1)) = (boundsM t locals (e.Args.take i) && boundM t locals e.Args[i] false) := by
          rw [List.take_add_one, hge, boundsM_all, boundsM_all, List.all_append]; simp
        have hS := fun L => (hsub i hlt false).ok L
        have a2 : inR .i64 ((i : Int) + 1) := by rw [inR_i64]; omega
        generalize hE : e.Args[i] = x at *
        simp [hlt, hge, hE]
        intro bs2
        refine runC_sound _ _ [.d (.v (.bool (boundM t locals x false)))] (by rfl) ?_
        simp [hS, a2, hlt, hE, htk, Bool.and_assoc] <;> (intro h1 h2; first | exact ⟨h1, h2⟩ | exact ⟨⟨h1, h2⟩, hS _⟩)
      · simp
    have hK : boundK t e locals said = false := by simp [boundK, hk1, hk14, hk15, hk19, hk4, hk5, hk11, hk13, hk6, hk16, hk17, hk18, hk10, hk12]
    refine Pure.run Tryz.func206 rfl (by simp [Tryz.f206]) ?_; simp [Tryz.f206, hk1, hk14, hk15, hk19, hk4, hk5, hk11, hk13, hk6, hk16, hk17, hk18, hk10, hk12]
    intro bs
    refine AWP.loopS [2, 4, 9, 154, 155, 156] e.Args.length (fun i => [(9, .d (.v (.bool (boundK t e locals said && boundsM t locals (e.Args.take i))))), (156, .d (.v (.int .i64 i)))]) (fun _ => []) (fun _ => True) (by rfl) (by simp [hK, boundsM]) ?_
    clear hK hA hI hB hP a1 a2 a3 b1 b2 b3
    generalize boundK t e locals said = b
    intro i hi _
    rcases Nat.lt_or_eq_of_le hi with hlt | rfl
    · have hge : e.Args[i]? = some e.Args[i] := List.getElem?_eq_getElem hlt
      have htk : boundsM t locals (e.Args.take (i + 1)) = (boundsM t locals (e.Args.take i) && boundM t locals e.Args[i] false) := by
        rw [List.take_add_one, hge, boundsM_all, boundsM_all, List.all_append]; simp
      have hS := fun L => (hsub i hlt false).ok L
      have a2 : inR .i64 ((i : Int) + 1) := by rw [inR_i64]; omega
      generalize hE : e.Args[i] = x at *
      simp [hlt, hge, hE]
      intro bs2
      refine runC_sound _ _ [.d (.v (.bool (boundM t locals x false)))] (by rfl) ?_
      simp [hS, a2, hlt, hE, htk, Bool.and_assoc] <;> (intro h1 h2; first | exact ⟨h1, h2⟩ | exact ⟨⟨h1, h2⟩, hS _⟩)
    · simp
end Go.Ab

namespace Go.Ab
open Go.Proofs
theorem code_ok (a b : Int) : Pure Tryz.prog 217 [.d (.v (.int .i64 a)), .d (.v (.int .i64 b))] (.agg ((GIns.mk a b).enc.map .d)) := by
  refine Pure.run Tryz.func217 rfl (by simp [Tryz.f217]) ?_; simp [Tryz.f217]
  rfl
theorem label_ok (b : Int) : Pure Tryz.prog 323 [.d (.v (.int .i64 b))] (.agg ((GIns.mk 38 b).enc.map .d)) := by
  refine Pure.run Tryz.func323 rfl (by simp [Tryz.f323]) ?_; simp [Tryz.f323]
  intro bs
  refine AOps.pureC rfl (code_ok 38 b) (by simp) rfl (by simp) rfl ?_
  simp
theorem jump_ok (b : Int) : Pure Tryz.prog 324 [.d (.v (.int .i64 b))] (.agg ((GIns.mk 24 b).enc.map .d)) := by
  refine Pure.run Tryz.func324 rfl (by simp [Tryz.f324]) ?_; simp [Tryz.f324]
  intro bs
  refine AOps.pureC rfl (code_ok 24 b) (by simp) rfl (by simp) rfl ?_
  simp
theorem zero_ok (b : Int) : Pure Tryz.prog 322 [.d (.v (.int .i64 b))] (.agg ((GIns.mk 25 b).enc.map .d)) := by
  refine Pure.run Tryz.func322 rfl (by simp [Tryz.f322]) ?_; simp [Tryz.f322]
  intro bs
  refine AOps.pureC rfl (code_ok 25 b) (by simp) rfl (by simp) rfl ?_
  simp
def ownM (e : GExpr) : GIns :=
  if e.Kind = 1 then ⟨1, e.Num⟩ else if e.Kind = 14 then ⟨3, e.Num⟩ else if e.Kind = 15 then ⟨5, e.Num⟩ else if e.Kind = 12 then ⟨7, e.Op⟩
  else if e.Kind = 4 then ⟨9, 0⟩ else if e.Kind = 5 then ⟨10, 0⟩ else if e.Kind = 11 then ⟨20, 0⟩ else if e.Kind = 6 then ⟨8, e.Op⟩
  else if e.Kind = 16 then ⟨12, e.Num⟩ else if e.Kind = 17 then ⟨13, e.Num⟩ else if e.Kind = 18 then ⟨26, e.Num⟩ else ⟨19, e.Op⟩
set_option maxRecDepth 20000 in
set_option maxHeartbeats 4000000 in
theorem own_ok (e : GExpr) : Pure Tryz.prog 330 [.agg (e.enc.map .d)] (.agg ((ownM e).enc.map .d)) := by
  have hc := fun a b L => (code_ok a b).ok L
  by_cases hk1 : e.Kind = 1
  · have hO : ownM e = ⟨1, (e.Num)⟩ := by simp [ownM, hk1]
    rw [hO]
    refine Pure.run Tryz.func330 rfl (by simp [Tryz.f330]) ?_; simp [Tryz.f330, hk1]
    intro bs
    refine AOps.pureC rfl (code_ok 1 (e.Num)) (by simp) rfl (by simp) rfl ?_
    simp
  by_cases hk14 : e.Kind = 14
  · have hO : ownM e = ⟨3, (e.Num)⟩ := by simp [ownM, hk14]
    rw [hO]
    refine Pure.run Tryz.func330 rfl (by simp [Tryz.f330]) ?_; simp [Tryz.f330, hk14]
    intro bs
    refine AOps.pureC rfl (code_ok 3 (e.Num)) (by simp) rfl (by simp) rfl ?_
    simp
  by_cases hk15 : e.Kind = 15
  · have hO : ownM e = ⟨5, (e.Num)⟩ := by simp [ownM, hk15]
    rw [hO]
    refine Pure.run Tryz.func330 rfl (by simp [Tryz.f330]) ?_; simp [Tryz.f330, hk15]
    intro bs
    refine AOps.pureC rfl (code_ok 5 (e.Num)) (by simp) rfl (by simp) rfl ?_
    simp
  by_cases hk12 : e.Kind = 12
  · have hO : ownM e = ⟨7, (e.Op)⟩ := by simp [ownM, hk12]
    rw [hO]
    refine Pure.run Tryz.func330 rfl (by simp [Tryz.f330]) ?_; simp [Tryz.f330, hk12]
    intro bs
    refine AOps.pureC rfl (code_ok 7 (e.Op)) (by simp) rfl (by simp) rfl ?_
    simp
  by_cases hk4 : e.Kind = 4
  · have hO : ownM e = ⟨9, (0)⟩ := by simp [ownM, hk4]
    rw [hO]
    refine Pure.run Tryz.func330 rfl (by simp [Tryz.f330]) ?_; simp [Tryz.f330, hk4]
    intro bs
    refine AOps.pureC rfl (code_ok 9 (0)) (by simp) rfl (by simp) rfl ?_
    simp
  by_cases hk5 : e.Kind = 5
  · have hO : ownM e = ⟨10, (0)⟩ := by simp [ownM, hk5]
    rw [hO]
    refine Pure.run Tryz.func330 rfl (by simp [Tryz.f330]) ?_; simp [Tryz.f330, hk5]
    intro bs
    refine AOps.pureC rfl (code_ok 10 (0)) (by simp) rfl (by simp) rfl ?_
    simp
  by_cases hk11 : e.Kind = 11
  · have hO : ownM e = ⟨20, (0)⟩ := by simp [ownM, hk11]
    rw [hO]
    refine Pure.run Tryz.func330 rfl (by simp [Tryz.f330]) ?_; simp [Tryz.f330, hk11]
    intro bs
    refine AOps.pureC rfl (code_ok 20 (0)) (by simp) rfl (by simp) rfl ?_
    simp
  by_cases hk6 : e.Kind = 6
  · have hO : ownM e = ⟨8, (e.Op)⟩ := by simp [ownM, hk6]
    rw [hO]
    refine Pure.run Tryz.func330 rfl (by simp [Tryz.f330]) ?_; simp [Tryz.f330, hk6]
    intro bs
    refine AOps.pureC rfl (code_ok 8 (e.Op)) (by simp) rfl (by simp) rfl ?_
    simp
  by_cases hk16 : e.Kind = 16
  · have hO : ownM e = ⟨12, (e.Num)⟩ := by simp [ownM, hk16]
    rw [hO]
    refine Pure.run Tryz.func330 rfl (by simp [Tryz.f330]) ?_; simp [Tryz.f330, hk16]
    intro bs
    refine AOps.pureC rfl (code_ok 12 (e.Num)) (by simp) rfl (by simp) rfl ?_
    simp
  by_cases hk17 : e.Kind = 17
  · have hO : ownM e = ⟨13, (e.Num)⟩ := by simp [ownM, hk17]
    rw [hO]
    refine Pure.run Tryz.func330 rfl (by simp [Tryz.f330]) ?_; simp [Tryz.f330, hk17]
    intro bs
    refine AOps.pureC rfl (code_ok 13 (e.Num)) (by simp) rfl (by simp) rfl ?_
    simp
  by_cases hk18 : e.Kind = 18
  · have hO : ownM e = ⟨26, (e.Num)⟩ := by simp [ownM, hk18]
    rw [hO]
    refine Pure.run Tryz.func330 rfl (by simp [Tryz.f330]) ?_; simp [Tryz.f330, hk18]
    intro bs
    refine AOps.pureC rfl (code_ok 26 (e.Num)) (by simp) rfl (by simp) rfl ?_
    simp
  have hO : ownM e = ⟨19, e.Op⟩ := by simp [ownM, hk1, hk14, hk15, hk12, hk4, hk5, hk11, hk6, hk16, hk17, hk18]
  rw [hO]
  refine Pure.run Tryz.func330 rfl (by simp [Tryz.f330]) ?_; simp [Tryz.f330, hk1, hk14, hk15, hk12, hk4, hk5, hk11, hk6, hk16, hk17, hk18]
  intro bs
  refine AOps.pureC rfl (code_ok 19 e.Op) (by simp) rfl (by simp) rfl ?_
  simp
theorem join_ok (a b : List GIns) (ha : a.length ≤ 1000000000000) (hb : b.length ≤ 1000000000000) : Pure Tryz.prog 215 [.d (.sl (a.map GIns.enc)), .d (.sl (b.map GIns.enc))] (.d (.sl ((a ++ b).map GIns.enc))) := by
  refine Pure.run Tryz.func215 rfl (by simp [Tryz.f215]) ?_; simp [Tryz.f215]
  omega
mutual
def szE : GExpr → Nat
  | .mk _ _ _ _ l => 1 + szEs l
def szEs : List GExpr → Nat
  | [] => 0
  | x :: l => szE x + szEs l
end
theorem szE_eq (e : GExpr) : szE e = 1 + szEs e.Args := by cases e; rw [szE]; rfl
theorem szEs_app (l r : List GExpr) : szEs (l ++ r) = szEs l + szEs r := by
  induction l with
  | nil => simp [szEs]
  | cons x l ih => simp only [List.cons_append, szEs, ih]; omega
mutual
def genE : GExpr → Int → List GIns × Int
  | .mk k o n s l, m =>
    if k = 6 ∧ (o = 1 ∨ o = 2) then
      match l with
      | a :: b :: _ => ((genE a (m + 2)).1 ++ [⟨25, m⟩] ++ (if o = 1 then [⟨1, 1⟩, ⟨24, m + 1⟩, ⟨38, m⟩] ++ (genE b (genE a (m + 2)).2).1 ++ [⟨11, 0⟩, ⟨38, m + 1⟩]
          else (genE b (genE a (m + 2)).2).1 ++ [⟨11, 0⟩, ⟨24, m + 1⟩, ⟨38, m⟩, ⟨1, 0⟩, ⟨38, m + 1⟩]), (genE b (genE a (m + 2)).2).2)
      | _ => ([], m)
    else ((genEs l m).1 ++ [ownM (.mk k o n s l)], (genEs l m).2)
def genEs : List GExpr → Int → List GIns × Int
  | [], m => ([], m)
  | x :: l, m => ((genE x m).1 ++ (genEs l (genE x m).2).1, (genEs l (genE x m).2).2)
end
def logicE (e : GExpr) : Prop := e.Kind = 6 ∧ (e.Op = 1 ∨ e.Op = 2)
theorem genE_plain (e : GExpr) (m : Int) (h : ¬ logicE e) : genE e m = ((genEs e.Args m).1 ++ [ownM e], (genEs e.Args m).2) := by
  cases e with
  | mk k o n s l =>
    rw [genE.eq_def]
    have h' : ¬ (k = 6 ∧ (o = 1 ∨ o = 2)) := h
    simp only
    rw [if_neg h']
    rfl
theorem genE_or (e a b : GExpr) (r : List GExpr) (m : Int) (hk : e.Kind = 6) (ho : e.Op = 1) (ha : e.Args = a :: b :: r) : genE e m = ((genE a (m + 2)).1 ++ [⟨25, m⟩] ++ ([⟨1, 1⟩, ⟨24, m + 1⟩, ⟨38, m⟩] ++ (genE b (genE a (m + 2)).2).1 ++ [⟨11, 0⟩, ⟨38, m + 1⟩]), (genE b (genE a (m + 2)).2).2) := by
  cases e with
  | mk k o n s l =>
    cases hk; cases ho; cases ha
    rw [genE]
    simp
theorem genE_and (e a b : GExpr) (r : List GExpr) (m : Int) (hk : e.Kind = 6) (ho : e.Op = 2) (ha : e.Args = a :: b :: r) : genE e m = ((genE a (m + 2)).1 ++ [⟨25, m⟩] ++ ((genE b (genE a (m + 2)).2).1 ++ [⟨11, 0⟩, ⟨24, m + 1⟩, ⟨38, m⟩, ⟨1, 0⟩, ⟨38, m + 1⟩]), (genE b (genE a (m + 2)).2).2) := by
  cases e with
  | mk k o n s l =>
    cases hk; cases ho; cases ha
    rw [genE]
    simp
theorem genEs_snoc (l : List GExpr) (x : GExpr) (m : Int) : genEs (l ++ [x]) m = ((genEs l m).1 ++ (genE x (genEs l m).2).1, (genE x (genEs l m).2).2) := by
  induction l generalizing m with
  | nil => simp [genEs]
  | cons y l ih => simp [genEs, ih]
theorem genEs_bd (l : List GExpr) (hl : ∀ x ∈ l, ∀ m, m ≤ (genE x m).2 ∧ (genE x m).2 ≤ m + 2 * szE x ∧ (genE x m).1.length ≤ 6 * szE x) (m : Int) : m ≤ (genEs l m).2 ∧ (genEs l m).2 ≤ m + 2 * szEs l ∧ (genEs l m).1.length ≤ 6 * szEs l := by
  induction l generalizing m with
  | nil => simp [genEs, szEs]
  | cons x l ih =>
    have h1 := hl x (by simp) m
    have h2 := ih (fun y hy => hl y (by simp [hy])) (genE x m).2
    rw [genEs, szEs, List.length_append]
    omega
theorem genE_bd (e : GExpr) (m : Int) : m ≤ (genE e m).2 ∧ (genE e m).2 ≤ m + 2 * szE e ∧ (genE e m).1.length ≤ 6 * szE e := by
  obtain ⟨n, hn⟩ : ∃ n, SizeOf.sizeOf e < n := ⟨_, Nat.lt_succ_self _⟩
  induction n generalizing e m with
  | zero => omega
  | succ n ih =>
    have hs : ∀ x ∈ e.Args, ∀ m, m ≤ (genE x m).2 ∧ (genE x m).2 ≤ m + 2 * szE x ∧ (genE x m).1.length ≤ 6 * szE x := fun x hx m => ih x m (by have := GExpr.lt_of_mem hx; omega)
    by_cases hL : logicE e
    · obtain ⟨hk, ho⟩ := hL
      by_cases hA : ∃ a b r, e.Args = a :: b :: r
      · obtain ⟨a, b, r, hA⟩ := hA
        have h1 := hs a (by simp [hA]) (m + 2)
        have h2 := hs b (by simp [hA]) (genE a (m + 2)).2
        rw [szE_eq, hA]
        simp only [szEs]
        rcases ho with ho | ho
        · rw [genE_or e a b r m hk ho hA]
          simp only [List.length_append, List.length_cons, List.length_nil]
          omega
        · rw [genE_and e a b r m hk ho hA]
          simp only [List.length_append, List.length_cons, List.length_nil]
          omega
      · have : genE e m = ([], m) := by
          cases e with
          | mk k o n s l =>
            cases l with
            | nil => rw [genE.eq_def]; simp [show k = 6 from hk, show o = 1 ∨ o = 2 from ho]
            | cons a l =>
              cases l with
              | nil => rw [genE.eq_def]; simp [show k = 6 from hk, show o = 1 ∨ o = 2 from ho]
              | cons b r => exact absurd ⟨a, b, r, rfl⟩ hA
        rw [this]
        simp
        omega
    · rw [genE_plain e m hL, szE_eq]
      have := genEs_bd e.Args hs m
      simp only [List.length_append, List.length_cons, List.length_nil]
      omega
end Go.Ab

namespace Go.Ab
section
variable {P : Program} {n : Nat} {Q : AX → St → Prop}
def LOpP (P : Program) (n : Nat) (ops : Array Oper) (o : Oper) (fr : List (Nat × V)) (L : Heap) (y : V) (L' : Heap) : Prop :=
  ∀ fr2, (∀ t, t ∈ o.looksAt ops → getF t fr2 = getF t fr) → ∀ fo m a w, G fo n m ⟨fr2, L⟩ a w →
    Region.wanted o (yielded ops a.tmps) = true ∧ ∀ (next : Act → World → Prop) (Q' : Exit → Act → World → Prop),
      (∀ ch w' m', Chain w' (OO fo m') m' ch y → Inv fo m' L' w' → Step w (own m) w' (own m') → Q' (.panic ch) a w') → o.wpIn (wr fo.r) 0 P a w next Q'
def EffP (P : Program) (ops : Array Oper) (o : Oper) (s : St) (K : V → Option Nat → Heap → Prop) (KP : V → Heap → Prop) : Prop :=
  (∃ x k L', (∀ n, LOp P n ops o s.fr s.L k x L') ∧ K x k L') ∨ (∃ y L', (∀ n, LOpP P n ops o s.fr s.L y L') ∧ KP y L')
def dAllC (P : Program) (ops : Array Oper) (c : Nat) (ks : List (Option Nat)) (Ls : List Heap) : List Dfr → Prop
  | [] => True
  | d :: ds => allP (min d.hi c - d.lo) (d.lo + 1) (fun p => qAt P ops d.o ⟨frAt ks p d.fr, Ls.getD p []⟩ d.x d.told) ∧ dAllC P ops c ks Ls ds
def runX (P : Program) (ops : Array Oper) (c : Nat) : List (Oper × Option (Nat × Nat)) → FrM → List (Option Nat) → List Heap → List V → Prop
  | [], _, _, _, _ => True
  | (o, none) :: rest, fr, ks, Ls, us => runX P ops c rest (putM fr o.dst (ks.length + 1) .any) (ks ++ [none]) (Ls ++ [[]]) us
  | (o, some (lo, hi)) :: rest, fr, ks, Ls, us =>
    if c < lo then runX P ops c rest (putM fr o.dst lo .any) ks Ls us
    else if isCall o then
      match us with
      | [] => False
      | u :: us' => match cv P ops ⟨frAt ks lo fr, Ls.getD lo []⟩ o u with
        | some (x, cd) => cd ∧ allP (min hi c - lo) (lo + 1) (fun p => qAt P ops o ⟨frAt ks p fr, Ls.getD p []⟩ x (some u)) ∧ runX P ops c rest (putM fr o.dst lo x) ks Ls us'
        | none => False
    else
      match qv P ops ⟨frAt ks lo fr, Ls.getD lo []⟩ o with
      | some (x, cd) => cd ∧ allP (min hi c - lo) (lo + 1) (fun p => qAt P ops o ⟨frAt ks p fr, Ls.getD p []⟩ x none) ∧ runX P ops c rest (putM fr o.dst lo x) ks Ls us
      | none => False
def runP (P : Program) (ops : Array Oper) (ov : List Nat) : List (Oper × Option (Nat × Nat)) → FrM → List (Option Nat) → List Heap → List V → List Dfr → (FrM → List (Option Nat) → List Heap → Prop) → (V → Heap → Prop) → Prop
  | [], fr, ks, Ls, _, ds, K, _ => dAll P ops ks Ls ds ∧ K fr ks Ls
  | (o, none) :: rest, fr, ks, Ls, us, ds, K, KP =>
    match (if ov.any (fun t => o.dst == some t) then none else lv P ops ⟨frAt ks ks.length fr, Ls.getD ks.length []⟩ o) with
    | some (x, k, L', c) => c ∧ runP P ops ov rest (putM fr o.dst (ks.length + 1) x) (ks ++ [k]) (Ls ++ [L']) us ds K KP
    | none => EffP P ops o ⟨frAt ks ks.length fr, Ls.getD ks.length []⟩
        (fun x k L' => runP P ops ov rest (putM fr o.dst (ks.length + 1) x) (ks ++ [k]) (Ls ++ [L']) us ds K KP)
        (fun y L' => KP y L' ∧ dAllC P ops ks.length ks Ls ds ∧ runX P ops ks.length rest (putM fr o.dst (ks.length + 1) .any) (ks ++ [none]) (Ls ++ [[]]) us)
  | (o, some (lo, hi)) :: rest, fr, ks, Ls, us, ds, K, KP =>
    if isCall o then
      match us with
      | [] => False
      | u :: us' => match cv P ops ⟨frAt ks ks.length fr, Ls.getD ks.length []⟩ o u with
        | some (x, c) => c ∧ allP (ks.length - lo) lo (fun p => qAt P ops o ⟨frAt ks p fr, Ls.getD p []⟩ x (some u)) ∧
            runP P ops ov rest (putM fr o.dst lo x) ks Ls us' (if ks.length < hi then ⟨o, fr, x, ks.length, hi, some u⟩ :: ds else ds) K KP
        | none => False
    else
      match qv P ops ⟨frAt ks ks.length fr, Ls.getD ks.length []⟩ o with
      | some (x, c) => c ∧ allP (ks.length - lo) lo (fun p => qAt P ops o ⟨frAt ks p fr, Ls.getD p []⟩ x none) ∧
          runP P ops ov rest (putM fr o.dst lo x) ks Ls us (if ks.length < hi then ⟨o, fr, x, ks.length, hi, none⟩ :: ds else ds) K KP
      | none => False
attribute [simp] runP runX dAllC
end
end Go.Ab
