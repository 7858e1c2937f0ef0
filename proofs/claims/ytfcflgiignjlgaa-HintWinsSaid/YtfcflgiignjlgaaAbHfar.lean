import Derived.Test.YtfcflgiignjlgaaAbHbfs2
import Derived.Test.YtfcflgiignjlgaaAbFam
set_option linter.unusedSimpArgs false
set_option linter.unusedVariables false
namespace Go.Ab
open Go.Proofs

theorem next_any (q : List Int) (b : Nat) : ACalls Try.prog 20 [.bp 4 0] [(1000, .row 3 1 (dd (encI q))), (4, .box (b + 1) 29 [.rv 1000])]
    (fun r L => r = .ret (.tup [.d (.v (.int .i64 (q.headD 0))), .d (.v (.bool (!q.isEmpty)))]) ∧ L = [(1000, .row 3 1 (dd (encI q.tail))), (4, .box (b + 1) 29 [.rv 1000])]) := by
  cases q with
  | nil =>
    refine ACalls.run Try.func20 rfl (by simp [Try.f20]) ?_; simp [Try.f20]
  | cons x q =>
    refine ACalls.run Try.func20 rfl (by simp [Try.f20]) ?_; simp [Try.f20]
    have e : dd (encI (x :: q)) = [.d (.v (.int .i64 x))] :: dd (encI q) := rfl
    simp [e, V.kill]
    omega

theorem set_fill (l : List Int) (n i : Nat) (v : Int) (h : i < n) (hl : l.length = n) (hv : l.getD i 0 = v) : (l.take i ++ List.replicate (n - i) 0).set i v = l.take (i + 1) ++ List.replicate (n - (i + 1)) 0 := by
  have hge : l[i]? = some v := by
    rw [List.getD_eq_getElem?_getD, List.getElem?_eq_getElem (by omega)] at hv
    rw [List.getElem?_eq_getElem (by omega)]; simpa using hv
  have hr : List.replicate (n - i) (0 : Int) = 0 :: List.replicate (n - (i + 1)) 0 := by
    rw [show n - i = (n - (i + 1)) + 1 by omega, List.replicate_succ]
  have hlt : (l.take i).length = i := by rw [List.length_take]; omega
  rw [hr, List.set_append_right _ _ (by omega), hlt, Nat.sub_self, List.set_cons_zero, List.take_add_one, hge]
  simp

theorem far_ok (g : GGraph) (hs : g.States.length ≤ 1000000) (he : g.Edges.length ≤ 1000000) : Pure Try.prog 10 [.agg (g.enc.map .d)] (.d (.sl (encI (farM g)))) := by
  refine Pure.run Try.func10 rfl (by simp [Try.f10]) ?_; simp [Try.f10]
  intro bs
  refine ⟨by unfold maxLen; omega, fun bs1 => ?_⟩
  refine AWP.weaken (Wk.ownBox 4 0 1000 (e := 3) (k := 1) rfl rfl (by simp)) ?_
  simp
  refine AWP.loopS [1, 3, 4, 19, 20] g.States.length (fun i => [(20, .d (.v (.int .i64 i)))]) (fun i => [(17, .row 3 1 (dd (encI ((far0 g).take i ++ List.replicate (g.States.length - i) 0)))), (1000, .row 3 1 (dd (encI (queue0 g i))))]) (fun _ => True) (by rfl) (by simp [queue0]) ?_
  intro i hi _
  rcases Nat.lt_or_eq_of_le hi with hlt | rfl
  · have hge : g.States[i]? = some g.States[i] := List.getElem?_eq_getElem hlt
    generalize hE : g.States[i] = e at hge
    have a4 : inR .i64 ((i : Int) + 1) := by rw [inR_i64]; omega
    have hwon : won g i = decide (e.Over = 1) := by simp [won, hge]
    have hg0 := far0_get g i hlt
    have hsf := fun v h => set_fill (far0 g) g.States.length i v hlt (far0_len g) h
    have hq : queue0 g (i + 1) = queue0 g i ++ (if e.Over = 1 then [(i : Int)] else []) := by
      simp only [queue0, List.range_succ, List.filter_append, List.map_append]
      congr 1
      by_cases h : e.Over = 1 <;> simp [List.filter_cons, hwon, h]
    have ho : ((far0 g).take i ++ List.replicate (g.States.length - i) 0)[i]? = some 0 := by
      rw [List.getElem?_append_right (by rw [List.length_take]; omega)]
      exact List.getElem?_replicate_of_lt (by rw [List.length_take, far0_len]; omega)
    have hol : ((far0 g).take i ++ List.replicate (g.States.length - i) 0).length = g.States.length := by rw [List.length_append, List.length_take, List.length_replicate, far0_len]; omega
    have hql : (queue0 g i).length ≤ i := by
      unfold queue0; rw [List.length_map]; exact Nat.le_trans (List.length_filter_le _ _) (by rw [List.length_range]; exact Nat.le_refl _)
    generalize (far0 g).take i ++ List.replicate (g.States.length - i) 0 = o at ho hol hsf
    have hil : i < o.length := by omega
    simp [hlt, hge, hE, a4, ho, hil]
    refine ⟨fun h => ⟨by omega, by simp [hq, h], ?_⟩, fun h => ⟨by simp [hq, h], ?_⟩⟩
    · rw [hsf 0 (by rw [hg0, hwon]; simp [h])]
    · rw [hsf (-1) (by rw [hg0, hwon]; simp [h])]
  · have ht : (far0 g).take g.States.length = far0 g := List.take_of_length_le (by rw [far0_len]; omega)
    simp
    refine ⟨by unfold maxLen; omega, ?_⟩
    refine AOps.pureC rfl (edges_ok g hs he) (by simp) rfl (by simp) rfl ?_
    simp [ht]
    refine AWP.weaken (Wk.famOwn 44 2000 (e := 3) (kk := 1) rfl (by simp)) ?_
    simp
    change AWP _ _ _ ⟨_, (44, Res.row 29 1 (hrow 2000 g.States.length)) :: (1000, Res.row 3 1 (dd (encI (queue0 g g.States.length)))) :: (4, Res.box (bs1 0 + 1) 29 [V.rv 1000]) :: (17, Res.row 3 1 (dd (encI (far0 g)))) :: (1, Res.box (bs 0 + 1) 25 (List.map V.d g.enc)) :: famd 2000 g.States.length 3 1 (fun v => encI (adjM ((goods g).take 0) v))⟩ _
    have hes : List.filter (goodE g.States.length) g.Edges = goods g := rfl
    rw [hes]
    have hgl : (goods g).length ≤ 1000000 := Nat.le_trans (List.length_filter_le _ _) he
    have hgood := goods_good g
    obtain ⟨es, hesd⟩ : ∃ es, es = goods g := ⟨_, rfl⟩
    rw [← hesd] at hgl hgood ⊢
    refine AWP.loopW es.length (fun i => ⟨[(48, .d (.v (.int .i64 i))), (47, .d (.v (.int .i64 es.length))), (46, .d (.sl (es.map GEdge.enc))), (6, .rv 44), (4, .bp 4 0), (3, .rv 17)],
      (44, .row 29 1 (hrow 2000 g.States.length)) :: (1000, .row 3 1 (dd (encI (queue0 g g.States.length)))) :: (4, .box (bs1 0 + 1) 29 [.rv 1000]) :: (17, .row 3 1 (dd (encI (far0 g)))) :: famd 2000 g.States.length 3 1 (fun v => encI (adjM (es.take i) v))⟩) (fun _ => True) ⟨trivial, ?_⟩ ?_
    · refine Wk.drop ?_ ?_ ?_ ?_
      · simp
      · simp; grind
      · simp [famKeys_nodup]
      · simp
        rintro a b x hx rfl rfl
        simp
    intro i hi _
    rcases Nat.lt_or_eq_of_le hi with hlt | rfl
    · have hge : es[i]? = some es[i] := List.getElem?_eq_getElem hlt
      have hgi := goodE_iff.1 (hgood es[i] (List.getElem_mem hlt))
      have htk : es.take (i + 1) = es.take i ++ [es[i]] := by rw [List.take_add_one, hge]; rfl
      generalize hE : es[i] = e at hge hgi htk
      have a4 : inR .i64 ((i : Int) + 1) := by rw [inR_i64]; omega
      simp [hlt, hge, hE, a4]
      intro bs2
      refine AWP.regionM0 [some (0, 2), some (0, 2), some (0, 2), some (0, 1), some (0, 1), some (0, 1), some (0, 1), some (0, 1), some (0, 0), some (0, 0), none, none, some (2, 2), none] [] Try.mixed (by kernel_rfl) ?_
      have hT : e.To.toNat < g.States.length := by omega
      generalize hv : e.To.toNat = v at hT
      have hA : adjM (es.take i) v ++ [e.From] = adjM (es.take (i + 1)) v := by simp [adjM, htk, hv]
      have hA' : ∀ x, x ≠ v → adjM (es.take i) x = adjM (es.take (i + 1)) x := by
        intro x hx
        have : (v == x) = false := by simpa using fun e => hx e.symm
        simp [adjM, htk, hv, this]
      have hAl : (adjM (es.take i) v).length ≤ 1000000 := by
        unfold adjM
        rw [List.length_map]
        exact Nat.le_trans (List.length_filter_le _ _) (by rw [List.length_take]; omega)
      simp [hT, hv, hgi.2.1, famd_map, Function.comp_def]
      refine ⟨by omega, a4, hlt, ?_⟩
      rw [hrow_set_kill]
      refine Wk.drop ?_ ?_ ?_ ?_
      · simp
      · simp
        rintro a b x hx rfl rfl
        refine .inr (.inr (.inr (.inr (.inr (.inr ⟨x, hx, ?_⟩)))))
        by_cases hxv : x = v
        · subst hxv; simp [hA]
        · simp [hxv, hA' x hxv]
      · simp [famKeys_nodup]
      · simp
        rintro a b x hx rfl rfl
        simp
    · simp
      refine AOps.effD [4, 1000] rfl (next_any (queue0 g g.States.length) (bs1 0)) (by simp) rfl (by simp) rfl (by simp) (by simp [famd_filter_no]) (by simp) (by simp) ?_ (by simp [famd_filter_all]) ?_
      · simp [famd_filter_all]
        rintro a b x hx rfl rfl
        simp
      intro bs2
      simp [famd_filter_all]
      refine AWP.loopW g.States.length (fun k => ⟨[(11, .d (.v (.bool (!(bfs g k).2.isEmpty)))), (10, .d (.v (.int .i64 ((bfs g k).2.head?.getD 0)))), (9, .clo (.func 20) [] [.bp 4 0]), (6, .rv 44), (4, .bp 4 0), (3, .rv 17)],
        (1000, .row 3 1 (dd (encI (bfs g k).2.tail))) :: (4, .box (bs1 0 + 1) 29 [.rv 1000]) :: (44, .row 29 1 (hrow 2000 g.States.length)) :: (17, .row 3 1 (dd (encI (bfs g k).1))) :: famd 2000 g.States.length 3 1 (fun v => encI (adjM es v))⟩) (fun k => BH g k) ⟨bh_start g, ?_⟩ ?_
      · refine Wk.drop ?_ ?_ ?_ ?_
        · simp [bfs, bfsN]
        · simp [bfs, bfsN]
        · simp [famKeys_nodup]
        · simp
          rintro a b x hx rfl rfl
          simp
      intro k hk hH
      have hbi := bfs_bi g k
      have hlt := bh_lt hH
      have hstep := bh_step hH
      have hsucc : bfs g (k + 1) = bfsStep es (bfs g k) := by rw [hesd]; rfl
      unfold BH at hH
      generalize bfs g k = S at hbi hlt hstep hsucc hH
      obtain ⟨out, q⟩ := S
      cases q with
      | nil =>
        simp
        have hfin : out = farM g := (farM_law (bi_law (goods_good g) hbi)).symm
        rw [hfin]
      | cons x q =>
        have hlt := hlt (by simp)
        have hstep := hstep (by simp)
        simp only [bfsStep] at hsucc
        obtain ⟨x1, x2, x3⟩ := hbi.inq x List.mem_cons_self
        have hxn : x.toNat < g.States.length := by omega
        have hlen := hbi.len
        have hmem := hH.2
        have hcnt := hH.1
        simp only at hlen hmem hcnt x3
        have hcl := cnt_le out
        have hadj : ∀ y ∈ adjM es x.toNat, 0 ≤ y ∧ y < g.States.length := fun y hy => adjM_mem (hesd ▸ hy)
        have hal : (adjM es x.toNat).length ≤ 1000000 := by
          unfold adjM
          rw [List.length_map]
          exact Nat.le_trans (List.length_filter_le _ _) hgl
        have hxk : out.getD x.toNat 0 ≤ k := by
          have hlt : x.toNat < out.length := by omega
          rw [List.getD_eq_getElem?_getD, List.getElem?_eq_getElem hlt]
          exact (hmem _ (List.getElem_mem hlt)).2
        simp [hxn, x1]
        refine AWP.loopW (adjM es x.toNat).length (fun j => ⟨[(83, .d (.v (.int .i64 j))), (82, .d (.v (.int .i64 (adjM es x.toNat).length))), (81, .rv (x.toNat + 2000)), (10, .d (.v (.int .i64 x))), (9, .clo (.func 20) [] [.bp 4 0]), (6, .rv 44), (4, .bp 4 0), (3, .rv 17)],
          (1000, .row 3 1 (dd (encI (((adjM es x.toNat).take j).foldl (visit x) (out, q)).2))) :: (4, .box (bs1 0 + 1) 29 [.rv 1000]) :: (44, .row 29 1 (hrow 2000 g.States.length)) :: (17, .row 3 1 (dd (encI (((adjM es x.toNat).take j).foldl (visit x) (out, q)).1))) :: famd 2000 g.States.length 3 1 (fun v => encI (adjM es v))⟩) (fun _ => True) ⟨trivial, ?_⟩ ?_
        · refine Wk.drop ?_ ?_ ?_ ?_
          · simp
          · simp
          · simp [famKeys_nodup]
          · simp [hxn]
            rintro a b x hx rfl rfl
            simp
        intro j hj _
        obtain ⟨v1, v2, v3, v4⟩ := visits_cnt (x := x) (B := k) ((adjM es x.toNat).take j) out q (fun y hy => by have := hadj y (List.mem_of_mem_take hy); omega) ⟨x3, hxk⟩ (fun v hv => by have := hmem v hv; omega)
        rcases Nat.lt_or_eq_of_le hj with hjl | rfl
        · have hye : (adjM es x.toNat)[j]? = some (adjM es x.toNat)[j] := List.getElem?_eq_getElem hjl
          have hyb := hadj _ (List.getElem_mem hjl)
          have htk : (adjM es x.toNat).take (j + 1) = (adjM es x.toNat).take j ++ [(adjM es x.toNat)[j]] := by rw [List.take_add_one, hye]; rfl
          generalize hY : (adjM es x.toNat)[j] = y at hye hyb htk
          have hfold : ((adjM es x.toNat).take (j + 1)).foldl (visit x) (out, q) = visit x (((adjM es x.toNat).take j).foldl (visit x) (out, q)) y := by rw [htk, List.foldl_append]; rfl
          have a4 : inR .i64 ((j : Int) + 1) := by rw [inR_i64]; omega
          generalize ((adjM es x.toNat).take j).foldl (visit x) (out, q) = r at v1 v2 v3 v4 hfold ⊢
          obtain ⟨out', q'⟩ := r
          simp only at v1 v2 v3 v4
          have hcl' := cnt_le out'
          have hyl : y.toNat < out'.length := by omega
          have hxl : x.toNat < out'.length := by omega
          have hu : out'[y.toNat]? = some (out'.getD y.toNat 0) := by
            rw [List.getD_eq_getElem?_getD, List.getElem?_eq_getElem hyl]; rfl
          have hw : out'[x.toNat]? = some (out'.getD x.toNat 0) := by
            rw [List.getD_eq_getElem?_getD, List.getElem?_eq_getElem hxl]; rfl
          rw [v4] at hw
          generalize hU : out'.getD y.toNat 0 = u at hu
          generalize hW : out.getD x.toNat 0 = w at hw x3 hxk v4
          have hv : visit x (out', q') y = if u = -1 then (out'.set y.toNat (w + 1), q' ++ [y]) else (out', q') := by
            unfold visit
            simp only [hU, v4]
          rw [hv] at hfold
          have hu' : out'[y.toNat] = u := by rw [List.getElem?_eq_getElem hyl] at hu; exact Option.some.inj hu
          have hw' : out'[x.toNat] = w := by rw [List.getElem?_eq_getElem hxl] at hw; exact Option.some.inj hw
          have a3 : inR .i64 (w + 1) := by rw [inR_i64]; omega
          simp [hjl, hye, hxn, hu, hw, hyb.1, hyl, hxl, x1, a3, a4, hY, hu', hw', famd_map, Function.comp_def, hfold]
          refine ⟨fun h => ⟨by simp only [List.length_cons] at hcnt; omega, ?_⟩, fun h => ?_⟩
          · simp only [h, if_true]
            refine Wk.drop ?_ ?_ ?_ ?_
            · simp
            · simp
              rintro a b x hx rfl rfl
              exact .inr (.inr (.inr (.inr (.inr ⟨x, hx, rfl, rfl⟩))))
            · simp [famKeys_nodup]
            · simp [hxn]
              rintro a b x hx rfl rfl
              simp
          · simp only [if_neg h]
            refine Wk.drop ?_ ?_ ?_ ?_
            · simp
            · simp
            · simp [famKeys_nodup]
            · simp [hxn]
              rintro a b x hx rfl rfl
              simp
        · simp
          rw [← hsucc]
          refine AOps.effD [4, 1000] rfl (next_any (bfs g (k + 1)).2 (bs1 0)) (by simp) rfl (by simp) rfl (by simp) (by simp [famd_filter_no]) (by simp) (by simp [famd_filter_all]; exact hxn) ?_ (by simp [famd_filter_all]) ?_
          · simp [famd_filter_all]
            rintro a b x hx rfl rfl
            simp
          intro bs3
          simp [famd_filter_all]
          refine ⟨hlt, hstep, ?_⟩
          refine Wk.drop ?_ ?_ ?_ ?_
          · simp
          · simp
          · simp [famKeys_nodup]
          · simp
            rintro a b x hx rfl rfl
            simp
end Go.Ab
