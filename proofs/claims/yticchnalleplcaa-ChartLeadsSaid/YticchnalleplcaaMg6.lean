/-
  The texts Cleads, one behind the other.
-/
import Derived.Test.YticchnalleplcaaMg5
set_option linter.unusedSimpArgs false
set_option linter.unusedVariables false
namespace Go.Ab
open Go.Proofs

def lastTo (d : Int) (ws : List GWay) : Int := ws.foldl (fun a w => if w.Dir = d then w.To else a) 0
theorem lastTo_nil (d : Int) : lastTo d [] = 0 := rfl
theorem lastTo_snoc (d : Int) (ws : List GWay) (w : GWay) : lastTo d (ws ++ [w]) = if w.Dir = d then w.To else lastTo d ws := by simp [lastTo]
def walkD (t : GTables) (x : Int) (p : List Int) : Int := p.foldl (fun x d => lastTo d (waysAt t x)) x
theorem walkD_snoc (t : GTables) (x : Int) (p : List Int) (d : Int) : walkD t x (p ++ [d]) = lastTo d (waysAt t (walkD t x p)) := by simp [walkD]

theorem ways_gt {t : GTables} : ∀ (l : List GWay) (p : GWay), waysM t (some p) l = true → ∀ v ∈ l, p.Dir < v.Dir
  | w :: l, p, h, v, hv => by
    simp only [waysM, wayB, prevB, Bool.and_eq_true, decide_eq_true_eq] at h
    rcases List.mem_cons.1 hv with rfl | hv
    · exact h.1.1.1.1.1.2
    · have := ways_gt l w h.2 v hv
      have := h.1.1.1.1.1.2
      omega
theorem foldl_none (d : Int) : ∀ (l : List GWay) (a : Int), (∀ v ∈ l, v.Dir ≠ d) → l.foldl (fun a w => if w.Dir = d then w.To else a) a = a
  | [], _, _ => rfl
  | w :: l, a, h => by
    rw [List.foldl_cons, if_neg (h w List.mem_cons_self)]
    exact foldl_none d l a (fun v hv => h v (List.mem_cons_of_mem _ hv))
theorem foldl_last {t : GTables} {w : GWay} : ∀ (l : List GWay) (o : Option GWay) (a : Int), waysM t o l = true → w ∈ l → l.foldl (fun a v => if v.Dir = w.Dir then v.To else a) a = w.To
  | v :: l, o, a, h, hw => by
    simp only [waysM, Bool.and_eq_true] at h
    rw [List.foldl_cons]
    rcases List.mem_cons.1 hw with rfl | hw
    · rw [if_pos rfl]
      exact foldl_none _ l _ (fun u hu => by have := ways_gt l w h.2 u hu; omega)
    · exact foldl_last l (some v) _ h.2 hw
theorem fits_waysM {t : GTables} (h : fitsB t = true) {x : GThing} (hx : x ∈ t.Things) : waysM t none x.Ways = true := by
  rcases fits_thing h hx with ⟨_, h1, _⟩ | h1
  · simp [h1, waysM]
  · simp only [thingOk, Bool.and_eq_true] at h1
    exact h1.2
theorem roomsM_mem2 : ∀ (l : List GThing) (i x : Int), i ≤ x → x < i + l.length → (l[(x - i).toNat]?.getD GThing.zero).Room = true → x ∈ roomsM l i
  | [], i, x, h1, h2, _ => by simp at h2; omega
  | y :: l, i, x, h1, h2, h3 => by
    rw [roomsM]
    by_cases hx : x = i
    · subst hx
      simp at h3
      simp [h3]
    · have h4 : (x - i).toNat = (x - (i + 1)).toNat + 1 := by omega
      rw [h4, List.getElem?_cons_succ] at h3
      have := roomsM_mem2 l (i + 1) x (by omega) (by simp at h2; omega) h3
      split <;> simp [this]
theorem isB_rooms {t : GTables} (h0 : (thingAt t 0).Room = false) {x : Int} : x ∈ roomsM t.Things 0 ↔ isB t x = true := by
  rw [isB_iff]
  constructor
  · intro h
    obtain ⟨h1, h2, h3⟩ := roomsM_mem h
    have h4 : x - 0 = x := by omega
    rw [h4] at h3
    refine ⟨⟨?_, by omega⟩, h3⟩
    by_cases hx : x = 0
    · subst hx; rw [thingAt] at h0; simp only [Int.toNat_zero] at h0 h3; rw [h0] at h3; cases h3
    · omega
  · rintro ⟨h1, h2⟩
    exact roomsM_mem2 _ _ _ (by omega) (by omega) (by rw [show x - 0 = x by omega]; exact h2)
theorem nodup_sub : ∀ (l m : List Int), l.Nodup → (∀ x ∈ l, x ∈ m) → l.length ≤ m.length
  | [], m, _, _ => by simp
  | x :: l, m, h, hs => by
    have hx := hs x List.mem_cons_self
    rw [List.nodup_cons] at h
    have := nodup_sub l (m.erase x) h.2 (fun y hy => by
      have hne : y ≠ x := fun he => h.1 (he ▸ hy)
      exact (List.mem_erase_of_ne hne).2 (hs y (List.mem_cons_of_mem _ hy)))
    rw [List.length_erase_of_mem hx] at this
    have := List.length_pos_of_mem hx
    simp
    omega

theorem Trail.walk {t : GTables} {fr to : Int} {n : Nat} {K : Nat → Int} (h : Trail t fr to n K) (hF : fitsB t = true) : ∀ i, i ≤ n → walkD t fr ((dirsS t to n fr).take i) = K (n - i) := by
  intro i
  induction i with
  | zero => intro _; simp [walkD, h.kn]
  | succ i ih =>
    intro hi
    obtain ⟨L, hL⟩ : ∃ L, n - i = L + 1 := ⟨n - i - 1, by omega⟩
    have hL2 : n - (i + 1) = L := by omega
    have h0 := ih (by omega)
    have hd := h.drop i (by omega)
    rw [hL] at h0 hd
    obtain ⟨q, w, h1, h2, h3, h4⟩ := h.step L (by omega)
    rw [h.dirs h1 h2 h3 h4] at hd
    have hg : (dirsS t to n fr)[i]? = some w.Dir := by
      have : ((dirsS t to n fr).drop i)[0]? = some w.Dir := by rw [hd]; rfl
      rwa [List.getElem?_drop, Nat.add_zero] at this
    rw [List.take_add_one, hg]
    simp only [Option.toList_some]
    rw [walkD_snoc, h0, hL2]
    have hb := h.bnd (L + 1) (by omega)
    rw [← h2]
    exact foldl_last _ none _ (fits_waysM hF (thingAt_mem hb)) (List.mem_of_getElem? h1)

theorem path_leads (t : GTables) (hF : fitsB t = true) (fr to : Int) : (pathM t fr to).2 = decide (to ∈ reachM t fr) ∧ ((pathM t fr to).2 = false → (pathM t fr to).1 = []) ∧
    ((pathM t fr to).2 = true → walkD t fr (pathM t fr to).1 = to ∧ (pathM t fr to).1.length < (roomsM t.Things 0).length) ∧
    ∀ pre d post, (pathM t fr to).1 = pre ++ d :: post → 0 ≤ walkD t fr pre ∧ walkD t fr pre < t.Things.length ∧ lastTo d (waysAt t (walkD t fr pre)) ≠ 0 := by
  have h0 := fits_zero hF
  by_cases h1 : isB t fr = true
  · have hi := isB_iff.1 h1
    have hfr : 0 ≤ fr ∧ fr < t.Things.length := by omega
    have hlen := bfsB_len hF hfr t.Things.length
    have hfull := metB_inv hF hfr
    have hN : bfsB t fr t.Things.length = metB t fr := rfl
    rw [hN] at hlen
    have hre : to ∈ reachM t fr ↔ isB t to = true ∧ to ∈ keysB (metB t fr) := by
      rw [reachM, if_pos h1, List.mem_filter, isB_rooms h0]
      simp
    by_cases h2 : isB t to = true
    · by_cases hin : to ∈ keysB (metB t fr)
      · obtain ⟨e, he, hek⟩ := List.mem_map.1 hin
        obtain ⟨j, hj⟩ := List.getElem?_of_mem he
        obtain ⟨hfar, hfl⟩ := hfull.farM hlen hj
        have hT := hfull.trail hF hfr hj
        rw [hek] at hfar hT
        have he0 := (hfull.far_le j e hj).1
        have hfn : farS t fr to t.Things.length = e.far.toNat := by omega
        have hpm := pathM_yes h1 h2 (by omega)
        rw [hfn] at hpm
        generalize hnn : e.far.toNat = n at *
        have hpl := hT.len n (Nat.le_refl _)
        rw [hT.kn] at hpl
        have hrl : (metB t fr).length ≤ (roomsM t.Things 0).length := by
          have := nodup_sub (keysB (metB t fr)) (roomsM t.Things 0) hfull.nodup (fun x hx => by
            have hb := hfull.bound hF hfr x hx
            have hr := hfull.rooms hF hfr hi.2 x hx
            exact roomsM_mem2 _ _ _ (by omega) (by omega) (by rw [show x - 0 = x by omega]; exact hr))
          simpa [keysB] using this
        rw [hpm]
        refine ⟨by simp [hre, h2, hin], by simp, fun _ => ⟨?_, by simp only [hpl]; omega⟩, ?_⟩
        · have := hT.walk hF n (Nat.le_refl _)
          rw [List.take_of_length_le (by omega), Nat.sub_self, hT.k0] at this
          exact this
        · intro pre d post hs
          simp only at hs
          have hpi : pre.length + 1 ≤ n := by have := congrArg List.length hs; simp at this; omega
          have h3 := hT.walk hF pre.length (by omega)
          have h4 := hT.walk hF (pre.length + 1) hpi
          have ht1 : (dirsS t to n fr).take pre.length = pre := by rw [hs]; simp
          have ht2 : (dirsS t to n fr).take (pre.length + 1) = pre ++ [d] := by rw [hs, List.take_add_one]; simp
          rw [ht1] at h3
          rw [ht2, walkD_snoc] at h4
          have hb := hT.bnd (n - pre.length) (by omega)
          rw [← h3] at hb
          refine ⟨hb.1, hb.2, ?_⟩
          rw [h4]
          obtain ⟨q, w, g1, g2, -⟩ := hT.step (n - (pre.length + 1)) (by omega)
          have hb2 := hT.bnd (n - (pre.length + 1) + 1) (by omega)
          have := fits_to hF (thingAt_mem hb2) (w := w) (List.mem_of_getElem? g1)
          omega
      · have hfn := hfull.farN hin t.Things.length
        have hpm := pathM_no3 (t := t) (fr := fr) (to := to) (by omega)
        rw [hpm]
        simp [hre, hin]
    · rw [pathM_no2 h2]
      simp [hre, h2]
  · rw [pathM_no1 h1]
    simp [reachM, h1]

set_option maxRecDepth 20000 in
theorem chartLeads_ok (t : GTables) (ht : t.wf) (fr to : Int) : Pure Try.prog 4 [.agg (t.enc.map .d), .d (.v (.int .i64 fr)), .d (.v (.int .i64 to))] (.d (.v (.bool true))) := by
  have hc1 := refFits_ok t ht
  have hc2 := awake55_ok
  by_cases hF : fitsB t = true
  · have h1 := path_ok t ht hF fr to
    have h2 := reach_ok t ht hF fr
    have h3 := rooms_law t ht
    obtain ⟨p1, p2, p3, p4⟩ := path_leads t hF fr to
    have hpl := path_le t hF fr to
    have hrl := reach_le t hF fr
    rw [hF] at hc1
    generalize pathM t fr to = q at *
    obtain ⟨p, ok⟩ := q
    simp only at p1 p2 p3 p4 hpl
    generalize reachM t fr = l at *
    refine Pure.run Try.func4 rfl (by simp [Try.f4]) ?_; simp [-condC_bool, Try.f4]
    try intro (_ : Nat → Nat)
    repeat' (first
      | (with_reducible refine And.intro ?_ ?_)
      | (refine condC_split (fun h => ?_) (fun h => ?_) <;> (try simp at h) <;> (try simp [-condC_bool, *]))
      | (refine AOps.pureC rfl (hc1) rfl rfl (by simp) rfl ?_ <;> (try simp [-condC_bool, *]))
      | (refine AOps.pureC rfl (hc2) rfl rfl (by simp) rfl ?_ <;> (try simp [-condC_bool, *]))
      | (refine AOps.pureC rfl (h1) rfl rfl (by simp) rfl ?_ <;> (try simp [-condC_bool, *]))
      | (refine AOps.pureC rfl (h2) rfl rfl (by simp) rfl ?_ <;> (try simp [-condC_bool, *]))
      | (refine AOps.pureC rfl (h3) rfl rfl (by simp) rfl ?_ <;> (try simp [-condC_bool, *]))
      | (refine AOps.lendC rfl (hc1) rfl (by simp) rfl rfl (by simp) rfl ?_ <;> (try simp [-condC_bool, *]))
      | (refine AOps.lendC rfl (hc2) rfl (by simp) rfl rfl (by simp) rfl ?_ <;> (try simp [-condC_bool, *]))
      | (refine AOps.lendC rfl (h1) rfl (by simp) rfl rfl (by simp) rfl ?_ <;> (try simp [-condC_bool, *]))
      | (refine AOps.lendC rfl (h2) rfl (by simp) rfl rfl (by simp) rfl ?_ <;> (try simp [-condC_bool, *]))
      | (refine AOps.lendC rfl (h3) rfl (by simp) rfl rfl (by simp) rfl ?_ <;> (try simp [-condC_bool, *]))
      | (refine AOps.pureG rfl (fun h => hc1) rfl (by first | rfl | (simp; rfl)) (by simp) (by simp) rfl ?_ <;> (try simp [-condC_bool, *]))
      | (refine AOps.pureG rfl (fun h => hc2) rfl (by first | rfl | (simp; rfl)) (by simp) (by simp) rfl ?_ <;> (try simp [-condC_bool, *]))
      | (refine AOps.pureG rfl (fun h => h1) rfl (by first | rfl | (simp; rfl)) (by simp) (by simp) rfl ?_ <;> (try simp [-condC_bool, *]))
      | (refine AOps.pureG rfl (fun h => h2) rfl (by first | rfl | (simp; rfl)) (by simp) (by simp) rfl ?_ <;> (try simp [-condC_bool, *]))
      | (refine AOps.pureG rfl (fun h => h3) rfl (by first | rfl | (simp; rfl)) (by simp) (by simp) rfl ?_ <;> (try simp [-condC_bool, *]))
      | (with_reducible intro _))
    clear h1 h2 hc1
    refine AWP.loopL [1, 2, 3, 7, 8, 9, 10, 11] l (fun pre => [(9, .d (.v (.bool (decide (to ∈ pre))))), (11, .d (.v (.int .i64 pre.length)))]) (fun _ => []) (fun _ => True) (by rfl) (by omega) (by simp) ?_ ?_
    · rintro pre x post hsp - hlt hge a4
      have hx : (x == to) = decide (to = x) := by by_cases h : x = to <;> simp [h]; exact fun h2 => h h2.symm
      clear hsp p2 p3 p4
      simp [-condC_bool, hlt, hge, hx, a4]
    · intro _
      simp [-condC_bool]
      refine AWP.loopL [2, 3, 7, 8, 12, 13] p (fun pre => [(12, .d (.v (.int .i64 (walkD t fr pre)))), (13, .d (.v (.int .i64 pre.length)))]) (fun _ => []) (fun _ => True) (by rfl) (by omega) (by simp [walkD]) ?_ ?_
      · rintro pre d post hsp - hlt hge a4
        obtain ⟨g1, g2, g3⟩ := p4 pre d post hsp
        have hsn := walkD_snoc t fr pre d
        have hxx : 0 ≤ walkD t fr pre ∧ walkD t fr pre < t.Things.length := ⟨g1, g2⟩
        have hge1 := thingAt_elem hxx
        have hget := thingAt_get hxx
        have hkb2 : 0 ≤ walkD t fr pre ∧ (walkD t fr pre).toNat < t.Things.length := by omega
        have hwl := fits_ways12 hF (thingAt_mem hxx)
        have hws : (thingAt t (walkD t fr pre)).Ways = waysAt t (walkD t fr pre) := rfl
        rw [hws] at hwl
        clear hsp p2 p3 p4
        simp [-condC_bool, hlt, hge, hkb2, hge1, hget, hws, a4]
        generalize walkD t fr pre = x at *
        generalize waysAt t x = ws at *
        refine AWP.loopL [2, 3, 7, 8, 13, 14, 15, 16] ws (fun pre2 => [(14, .d (.v (.int .i64 (lastTo d pre2)))), (16, .d (.v (.int .i64 pre2.length)))]) (fun _ => []) (fun _ => True) (by rfl) (by omega) (by simp [lastTo_nil]) ?_ ?_
        · rintro pre2 w post2 hsp2 - hlt2 hge2 a5
          have hs2 := lastTo_snoc d pre2 w
          clear hsp2
          simp [-condC_bool, hlt2, hge2, hs2, a5]
          refine AWP.regionD [] Try.mixed (by kernel_rfl) (by rfl) ?_
          simp [-condC_bool, hlt2, hge2, hs2, a5, hlt, hge]
          refine condC_split (fun h => ?_) (fun h => ?_) <;> simp at h <;> simp [-condC_bool, h, hlt2, hge2, hs2, a5]
        · intro _
          have g4 : (lastTo d ws == 0) = false := by simpa using g3
          simp [-condC_bool, g3, g4, hsn, a4]
      · intro _
        have h3' := h3.ok
        have hc2' := hc2.ok
        by_cases hin : to ∈ l
        · obtain ⟨q1, q2⟩ := p3 (by simp [p1, hin])
          simp [-condC_bool, hin, q1]
          refine AOps.pureG rfl (fun _ => h3) rfl (by first | rfl | (simp; rfl)) (by simp) (by simp) rfl ?_
          simp [q2]
          refine AOps.pureG rfl (fun _ => hc2) rfl (by first | rfl | (simp; rfl)) (by simp) (by simp) rfl ?_
          simp
        · simp [-condC_bool, hin]
          refine AOps.pureG rfl (fun _ => h3) rfl (by first | rfl | (simp; rfl)) (by simp) (by simp) rfl ?_
          simp
          refine AOps.pureG rfl (fun _ => hc2) rfl (by first | rfl | (simp; rfl)) (by simp) (by simp) rfl ?_
          simp
  · have hF' : fitsB t = false := by simpa using hF
    rw [hF'] at hc1
    refine Pure.run Try.func4 rfl (by simp [Try.f4]) ?_; simp [-condC_bool, Try.f4]
    try intro (_ : Nat → Nat)
    repeat' (first
      | (with_reducible refine And.intro ?_ ?_)
      | (refine condC_split (fun h => ?_) (fun h => ?_) <;> (try simp at h) <;> (try simp [-condC_bool, *]))
      | (refine AOps.pureC rfl (hc1) rfl rfl (by simp) rfl ?_ <;> (try simp [-condC_bool, *]))
      | (refine AOps.pureC rfl (hc2) rfl rfl (by simp) rfl ?_ <;> (try simp [-condC_bool, *]))
      | (refine AOps.lendC rfl (hc1) rfl (by simp) rfl rfl (by simp) rfl ?_ <;> (try simp [-condC_bool, *]))
      | (refine AOps.lendC rfl (hc2) rfl (by simp) rfl rfl (by simp) rfl ?_ <;> (try simp [-condC_bool, *]))
      | (refine AOps.pureG rfl (fun h => hc1) rfl (by first | rfl | (simp; rfl)) (by simp) (by simp) rfl ?_ <;> (try simp [-condC_bool, *]))
      | (refine AOps.pureG rfl (fun h => hc2) rfl (by first | rfl | (simp; rfl)) (by simp) (by simp) rfl ?_ <;> (try simp [-condC_bool, *]))
      | (with_reducible intro _))
end Go.Ab
