/-
  The texts Rc Hd Wbeg Wst Wright Wright2 Vbook4 Wcode Wbyt Glaw3 Wsize Wawk Wlaw Flaw, one behind the other.
-/
import Derived.Test.YtfcjkjahbmcabaaGreatMg6
import Derived.Laws.BytesArg
set_option linter.unusedSimpArgs false
set_option linter.unusedVariables false
namespace Go.Ab
section
variable {P : Program} {n : Nat} {Q : AX → St → Prop}
end
end Go.Ab

namespace Go.Ab
def V.hide (hx : List (Nat × Value)) : V → V
  | .rv g => match hx.lookup g with
    | some x => .kn (fun v => v = x)
    | none => .rv g
  | y => y
def Res.hide (hx : List (Nat × Value)) : Res → Res
  | .box b ty cs => .box b ty (cs.map (V.hide hx))
  | r => r
def hideL (hx : List (Nat × Value)) (L : Heap) : Heap := L.map fun p => (p.1, p.2.hide hx)
theorem hide_keys hx L : keys (hideL hx L) = keys L := by simp [hideL]
theorem lookup_mem' {hx : List (Nat × Value)} {g} {x} (h : hx.lookup g = some x) : (g, x) ∈ hx := lookup_in h
theorem RelV.hide {w} {O} {m} {hx} (hm : ∀ p ∈ hx, m p.1 = some p.2) {v} {c} (h : RelV w O m v c) : RelV w O m v (V.hide hx c) := by
  cases c with
  | rv g =>
    simp  [V.hide]
    split
    · rename_i x hx'
      cases h with
      | rv _ _ e e1 =>
        have := hm _ (lookup_mem' hx')
        rw [e] at this
        exact .kn _ _ (Option.some.inj this)
    omega
  | _ => exact h
theorem RelV.unhide {w} {O} {m} {hx} (hm : ∀ p ∈ hx, m p.1 = some p.2) {v} {c} (h1 : v.oneCell' = true) (h : RelV w O m v (V.hide hx c)) : RelV w O m v c := by
  cases c with
  | rv g =>
    simp  [V.hide] at h
    split at h
    · rename_i x hx'
      cases h with
      | kn _ _ e => exact .rv g v (by rw [e]; exact hm _ (lookup_mem' hx')) h1
    omega
  | _ => exact h
theorem Res.Holds.hide {w} {O} {m} {hx} (hm : ∀ p ∈ hx, m p.1 = some p.2) {x} {r : Res} (h : r.Holds w O m x) : (r.hide hx).Holds w O m x := by
  cases r with
  | box b ty cs =>
    obtain ⟨bb, h1, cur, h2, h3, h4, h5, h6⟩ := h
    refine ⟨bb, h1, cur, h2, h3, by grind, h5, fun j v c hv hc => ?_⟩
    rw [List.getElem?_map] at hc
    obtain ⟨c0, hc0, rfl⟩ := Option.map_eq_some_iff.1 hc
    exact (h6 j v c0 hv hc0).hide hm
  | row ty k xs => exact h
  | env A => exact h
  | mp es => exact h
theorem Res.Holds.unhide {w} {O} {m} {hx} (hm : ∀ p ∈ hx, m p.1 = some p.2) {x} {r : Res} (h : (r.hide hx).Holds w O m x) : r.Holds w O m x := by
  cases r with
  | box b ty cs =>
    obtain ⟨bb, h1, cur, h2, h3, h4, h5, h6⟩ := h
    refine ⟨bb, h1, cur, h2, h3, by simpa using h4, h5, fun j v c hv hc => ?_⟩
    exact (h6 j v (V.hide hx c) hv (by rw [List.getElem?_map, hc]; rfl)).unhide hm (h5 j v hv)
  | row ty k xs => exact h
  | env A => exact h
  | mp es => exact h
theorem Inv.hide {fo} {m} {w} {hx} (hm : ∀ p ∈ hx, m p.1 = some p.2) {L1 L2} (h : Inv fo m (L1 ++ L2) w) : Inv fo m (hideL hx L1 ++ L2) w := by
  have hk : keys (hideL hx L1 ++ L2) = keys (L1 ++ L2) := by
    grind [hide_keys, keys]
  refine ⟨by rw [hk]; exact h.nodup, fun i x hi => by rw [hk]; exact h.dom i x hi, h.apart, h.others, h.folt, fun i r hr => ?_, h.glob⟩
  rcases List.mem_append.1 hr with hr | hr
  · obtain ⟨p, hp, he⟩ := List.mem_map.1 hr
    cases he
    obtain ⟨x, hx1, hh⟩ := h.holds p.1 p.2 (List.mem_append_left _ hp)
    exact ⟨x, hx1, hh.hide hm⟩
  · exact h.holds i r (List.mem_append_right _ hr)
theorem Inv.unhide {fo} {m} {w} {hx} (hm : ∀ p ∈ hx, m p.1 = some p.2) {L1 L2} (h : Inv fo m (hideL hx L1 ++ L2) w) : Inv fo m (L1 ++ L2) w := by
  have hk : keys (hideL hx L1 ++ L2) = keys (L1 ++ L2) := by
    grind [hide_keys, keys]
  refine ⟨by rw [← hk]; exact h.nodup, fun i x hi => by rw [← hk]; exact h.dom i x hi, h.apart, h.others, h.folt, fun i r hr => ?_, h.glob⟩
  rcases List.mem_append.1 hr with hr | hr
  · obtain ⟨x, hx1, hh⟩ := h.holds i (r.hide hx) (List.mem_append_left _ (List.mem_map.2 ⟨(i, r), hr, rfl⟩))
    exact ⟨x, hx1, hh.unhide hm⟩
  · exact h.holds i r (List.mem_append_right _ hr)
section
variable {P : Program} {n : Nat} {Q : AX → St → Prop}
def boxesOf (L : Heap) : List Nat := L.filterMap fun p => match p.2 with | .box (_ + 1) _ _ => some p.1 | _ => none
theorem hide_boxes hx L : boxesOf (hideL hx L) = boxesOf L := by
  unfold boxesOf
  induction L with
  | nil => rfl
  | cons p L ih =>
    obtain ⟨k, r⟩ := p
    have e : hideL hx ((k, r) :: L) = (k, r.hide hx) :: hideL hx L := rfl
    rw [e]
    cases r with
    | box b ty cs => grind [Res.hide]
    | _ => simp [Res.hide, ih]
theorem LOp.callH {ops} {o} {s : St} {c} {f} {args} {L1 L1'} {x} r (hs hid : List Nat) (hop : o.op = .call c) (h : ∀ hx : List (Nat × Value), hx.map Prod.fst = hid → ACalls P f args (hideL hx L1) (fun r L => r = .ret x ∧ L = hideL hx L1'))
    (hc : callee s.ev c = some (f, args)) (hg : o.guard = none)
    (he : enters P f = true) (hL : s.L.filter (fun p => hs.contains p.1) = L1) (hh : hid.all (fun k => (keys (s.L.filter fun p => !hs.contains p.1)).contains k) = true)
    (ho : V.ons (keys L1) args = true ∧ (∀ hx : List (Nat × Value), hx.map Prod.fst = hid → (hideL hx L1).all (fun p => Res.on (keys L1) p.2) = true) ∧ L1.all (fun p => (match p.2 with | .box (_ + 1) _ _ => true | _ => p.1 == r)) = true)
    (hb : ∀ k b ty cs, (k, Res.box (b + 1) ty cs) ∈ L1 → ∃ ty' cs', (k, Res.box (b + 1) ty' cs') ∈ L1')
    (hL2 : (s.L.filter fun p => !hs.contains p.1).all (fun p => Res.on (keys (s.L.filter fun p => !hs.contains p.1) ++ (L1.filterMap fun p => match p.2 with | .box (_ + 1) _ _ => some p.1 | _ => none)) p.2) = true)
    (hk : ∀ k ∈ keys L1', k ∉ keys (s.L.filter fun p => !hs.contains p.1)) :
    LOp P n ops o s.fr s.L (some r) x (L1' ++ s.L.filter fun p => !hs.contains p.1) := by
  classical
  intro fr2 hlook fo m a w g
  have he' : ∀ z, z ∈ o.op.operands → St.ev ⟨fr2, s.L⟩ z = s.ev z := by
    intro z hz
    cases z with
    | tmp t => simp_all [looks_operand]
    | const v => rfl
    | global g => rfl
    | func f => rfl
  have hperm : s.L.Perm (L1 ++ s.L.filter fun p => !hs.contains p.1) := by grind [List.filter_append_perm]
  generalize hL2e : (s.L.filter fun p => !hs.contains p.1) = L2 at *
  rw [List.all_eq_true] at hh
  have hin : ∀ k ∈ hid, k ∈ keys L2 := fun k hk => by grind
  have hex : ∀ k ∈ hid, ∃ x, m k = some x := by
    intro k hk
    obtain ⟨⟨k', res⟩, hp, rfl⟩ := List.mem_map.1 (hin k hk)
    obtain ⟨x, hx, _⟩ := g.inv.holds k' res (hperm.mem_iff.2 (List.mem_append_right _ hp))
    grind
  let hx : List (Nat × Value) := hid.map fun k => (k, (m k).getD undef)
  have hxf : hx.map Prod.fst = hid := by simp [hx, Function.comp_def]
  have hm : ∀ p ∈ hx, m p.1 = some p.2 := by
    intro p hp
    obtain ⟨k, hk, rfl⟩ := List.mem_map.1 hp
    obtain ⟨x, hx⟩ := hex k hk
    grind
  have hcal : callee (St.ev ⟨fr2, hideL hx L1 ++ L2⟩) c = some (f, args) := by
    rw [← hc]
    have hev : ∀ z, z ∈ o.op.operands → St.ev ⟨fr2, hideL hx L1 ++ L2⟩ z = s.ev z := fun z hz => by simp_all
    unfold callee
    cases hcal : c.callee with
    | value fo =>
      simp only
      rw [hev fo (by simp_all)]
      have : c.args.toList.map (St.ev ⟨fr2, hideL hx L1 ++ L2⟩) = c.args.toList.map s.ev := by
        simp_all
      grind
    | _ => rfl
  refine .inl ⟨by simp [Region.wanted, hg], fun next Q' kk => ?_⟩
  have g2 : G fo n m ⟨fr2, hideL hx L1 ++ L2⟩ a w := ⟨g.size, g.fr, (g.inv.perm hperm).hide hm, g.defers⟩
  refine call_core (s := ⟨fr2, hideL hx L1 ++ L2⟩) (L1 := hideL hx L1) (L2 := L2) hop hcal he (by grind [hide_keys]) (List.Perm.refl _) (by grind [hide_keys]) (fun p hp => by show Res.on (keys L2 ++ boxesOf (hideL hx L1)) p.2 = true; rw [hide_boxes]; exact List.all_eq_true.1 hL2 p hp) (h hx hxf) ?_ g2 fun x' L1'' mm v w' hR hrx hinv stt hbx hkeep hO' => ?_
  · rintro r' L1'' ⟨rfl, rfl⟩
    refine ⟨⟨_, rfl⟩, fun k hk' => hk k (by grind [hide_keys]), fun k b ty cs hm' => ?_⟩
    obtain ⟨⟨k0, r0⟩, hp, he0⟩ := List.mem_map.1 hm'
    simp only [Prod.mk.injEq] at he0
    obtain ⟨rfl, he1⟩ := he0
    cases r0 with
    | box b0 ty0 cs0 =>
      simp only [Res.hide, Res.box.injEq] at he1
      obtain ⟨rfl, rfl, rfl⟩ := he1
      obtain ⟨ty', cs', hmem⟩ := hb k0 b ty0 cs0 hp
      exact ⟨ty', cs'.map (V.hide hx), List.mem_map.2 ⟨_, hmem, rfl⟩⟩
    | row _ _ _ => grind [Res.hide]
    | env _ => grind [Res.hide]
    | mp _ => grind [Res.hide]
  · obtain ⟨e, rfl⟩ := hR
    obtain rfl := AE.ret.inj e
    have hbx : ∀ h y, h ∈ keys L2 ++ boxesOf L1 → m h = some y → mm h = some y := fun h y hh => hbx h y (by show h ∈ keys L2 ++ boxesOf (hideL hx L1); grind [hide_boxes])
    have hmm : ∀ p ∈ hx, mm p.1 = some p.2 := fun p hp => by
      grind
    refine kk v w' mm hrx ⟨g.size, fun t y hy => ?_, hinv.unhide hmm, g.defers⟩ stt
    unfold killO at hy
    obtain ⟨p, hp, hpe⟩ := List.mem_map.1 hy
    simp only [Prod.mk.injEq] at hpe
    obtain ⟨rfl, rfl⟩ := hpe
    obtain ⟨q1, q2⟩ := g.fr p.1 p.2 hp
    refine ⟨q1, (RelV.kill (m' := mm) (h := r) (fun i y hne hi => hbx i y ?_ hi) q2).mono hkeep hO' (fun _ _ e => e)⟩
    have hkey : i ∈ keys s.L := g.inv.dom i y hi
    obtain ⟨⟨i', res⟩, hmem, rfl⟩ := List.mem_map.1 hkey
    rcases List.mem_append.1 (hperm.mem_iff.1 hmem) with hm | hm
    · refine List.mem_append_right _ (List.mem_filterMap.2 ⟨_, hm, ?_⟩)
      have := List.all_eq_true.1 ho.2.2 _ hm
      cases res with
      | row _ _ _ => grind
      | env _ => grind
      | mp _ => grind
      | box b _ _ =>
        cases b with
        | zero => grind
        | succ b => rfl
    · exact List.mem_append_left _ (List.mem_map.2 ⟨_, hm, rfl⟩)
end
end Go.Ab
namespace Go.Ab
section
variable {P : Program} {n : Nat} {Q : AX → St → Prop}
attribute [simp] runD
end
end Go.Ab

namespace Go.Ab
open Go.Proofs
set_option maxHeartbeats 4000000
set_option maxRecDepth 20000
def markI (l : List Bool) (i : Int) : List Bool := if 0 ≤ i then l.set i.toNat true else l
@[simp] theorem markI_len (l : List Bool) (i : Int) : (markI l i).length = l.length := by unfold markI; split <;> simp
def markL (l : List Bool) (is : List Int) : List Bool := is.foldl markI l
@[simp] theorem markL_len (is : List Int) : ∀ l : List Bool, (markL l is).length = l.length := by
  induction is with
  | nil => intro l; rfl
  | cons i is ih => intro l; show (markL (markI l i) is).length = _; rw [ih]; simp
theorem markL_get (is : List Int) : ∀ (l : List Bool) (k : Nat), k < l.length → (markL l is)[k]? = some (l[k]?.getD false || is.any fun i => decide (i = k)) := by
  induction is with
  | nil => intro l k hk; simp [markL, hk]
  | cons i is ih =>
    intro l k hk
    show (markL (markI l i) is)[k]? = _
    rw [ih _ _ (by simpa using hk)]
    congr 1
    unfold markI
    by_cases h0 : 0 ≤ i
    · rw [if_pos h0]
      by_cases hik : i = k
      · have : i.toNat = k := by omega
        simp [this, hk, hik]
      · have : i.toNat ≠ k := by omega
        rw [List.getElem?_set_ne this]
        simp [hik]
    · rw [if_neg h0]
      have : ¬ i = k := by omega
      simp [this]
theorem rensA (h g : Nat) (a b : List V) : V.rens h g (a ++ b) = V.rens h g a ++ V.rens h g b := by simp [rens_eq]
theorem onsA (ks : List Nat) : ∀ (a b : List V), V.ons ks (a ++ b) = (V.ons ks a && V.ons ks b)
  | [], b => by simp [V.ons]
  | x :: a, b => by simp [V.ons, onsA ks a b, Bool.and_assoc]
theorem lMark_ok (h : Nat) (hh : h = 5021 ∨ h = 5023 ∨ h = 5025) (b : Nat) (cs : List V) (hcs : V.ons [5027, h] cs = true) (l : List Bool) (i : Int) (hi : i < l.length) :
    ACalls Tryz.prog 58 [.rv h, .d (.v (.int .i64 i))] [(5027, .box (b + 1) 96 cs), (h, .row 4 1 (dd (encB l)))] (fun r L => r = .ret (.tup []) ∧ L = [(5027, .box (b + 1) 96 cs), (h, .row 4 1 (dd (encB (markI l i))))]) := by
  unfold markI
  have hlt : 0 ≤ i → i.toNat < l.length := fun _ => by omega
  rcases hh with rfl | rfl | rfl
  · refine ACalls.runX [] [5027, 5021] Tryz.func58 rfl (by simp [Tryz.f58]) ?_; simp [-cB, Tryz.f58]
    refine condC_split (fun h => ?_) (fun h => ?_) <;> simp at h
    · simp [h, hlt h, hcs]
    · have : ¬ 0 ≤ i := by omega
      simp [this, hcs]
  · refine ACalls.runX [] [5027, 5023] Tryz.func58 rfl (by simp [Tryz.f58]) ?_; simp [-cB, Tryz.f58]
    refine condC_split (fun h => ?_) (fun h => ?_) <;> simp at h
    · simp [h, hlt h, hcs]
    · have : ¬ 0 ≤ i := by omega
      simp [this, hcs]
  · refine ACalls.runX [] [5027, 5025] Tryz.func58 rfl (by simp [Tryz.f58]) ?_; simp [-cB, Tryz.f58]
    refine condC_split (fun h => ?_) (fun h => ?_) <;> simp at h
    · simp [h, hlt h, hcs]
    · have : ¬ 0 ≤ i := by omega
      simp [this, hcs]
theorem lMark3_ok (b : Nat) (cs : List V) (hcs : V.ons [5027, 5021, 5023, 5025] cs = true) (w f bo : List Bool) (i : Int) (hi : i < f.length) :
    ACalls Tryz.prog 58 [.rv 5023, .d (.v (.int .i64 i))] [(5027, .box (b + 1) 96 cs), (5021, .row 4 1 (dd (encB w))), (5023, .row 4 1 (dd (encB f))), (5025, .row 4 1 (dd (encB bo)))]
      (fun r L => r = .ret (.tup []) ∧ L = [(5027, .box (b + 1) 96 cs), (5021, .row 4 1 (dd (encB w))), (5023, .row 4 1 (dd (encB (markI f i)))), (5025, .row 4 1 (dd (encB bo)))]) := by
  unfold markI
  have hlt : 0 ≤ i → i.toNat < f.length := fun _ => by omega
  refine ACalls.runX [] [5027, 5021, 5023, 5025] Tryz.func58 rfl (by simp [Tryz.f58]) ?_; simp [-cB, Tryz.f58]
  refine condC_split (fun h => ?_) (fun h => ?_) <;> simp at h
  · simp [h, hlt h, hcs]
  · have : ¬ 0 ≤ i := by omega
    simp [this, hcs]
theorem AOps.effY {P : Program} {n : Nat} {s : St} {Q : AX → St → Prop} {ops : Array Oper} {o : Oper} {rest : List Oper} {c : Call} {f : FuncId} {args : List V} {L1 L1' : Heap} {x : V} (hs : List Nat) (hop : o.op = .call c) (h : ACalls P f args L1 (fun r L => r = .ret x ∧ L = L1')) (hc : callee s.ev c = some (f, args)) (hg : o.guard = none)
    (hd : ∀ d, o.dst = some d → d < n) (hr : dstsOk n rest = true) (he : enters P f = true) (hL : s.L.filter (fun p => hs.contains p.1) = L1) (ho : V.ons (keys L1) args = true) (hon : L1.all (fun p => Res.on (keys L1) p.2) = true)
    (hL2 : (s.L.filter fun p => !hs.contains p.1).all (fun p => Res.on (keys (s.L.filter fun p => !hs.contains p.1) ++ (L1.filterMap fun p => match p.2 with | .box (_ + 1) _ _ => some p.1 | _ => none)) p.2) = true)
    (hk : ∀ k ∈ keys L1', k ∉ keys (s.L.filter fun p => !hs.contains p.1)) (hb : ∀ k b ty cs, (k, Res.box (b + 1) ty cs) ∈ L1 → ∃ ty' cs', (k, Res.box (b + 1) ty' cs') ∈ L1')
    (k : ∀ bs, runC P ops rest (St.put ⟨s.fr.filter fun p => V.on (keys (s.L.filter fun p => !hs.contains p.1) ++ (L1.filterMap fun p => match p.2 with | .box (_ + 1) _ _ => some p.1 | _ => none)) p.2, L1' ++ s.L.filter fun p => !hs.contains p.1⟩ o.dst x) bs [] (KK P n ops Q)) : AOps P n ops (o :: rest) s Q := by
  refine AOps.callX (L1 := L1) (L2 := s.L.filter fun p => !hs.contains p.1) (s.fr.filter fun p => V.on (keys (s.L.filter fun p => !hs.contains p.1) ++ (L1.filterMap fun p => match p.2 with | .box (_ + 1) _ _ => some p.1 | _ => none)) p.2) hg hd hop hc he ho (by subst hL; exact (List.filter_append_perm _ s.L).symm) hon (fun p hp => List.mem_filter.1 hp) (fun p hp => List.all_eq_true.1 hL2 p hp) h ?_ ?_
  · rintro r L1'' ⟨rfl, rfl⟩
    exact ⟨⟨_, rfl⟩, hk, hb⟩
  · rintro x' L1'' ⟨e, rfl⟩
    obtain rfl := AE.ret.inj e
    exact runC_sound rest _ [] hr k
theorem cellsA {L : Heap} : ∀ {a b : List V} {x y : List D}, cellsD L a = some x → cellsD L b = some y → cellsD L (a ++ b) = some (x ++ y)
  | [], b, x, y, h1, h2 => by simp [cellsD] at h1; subst h1; simpa using h2
  | v :: a, b, x, y, h1, h2 => by
    rw [cellsD] at h1
    split at h1
    · rename_i d r hd hr
      cases h1
      rw [List.cons_append, cellsD, hd, cellsA hr h2]
      rfl
    · cases h1
def lkC (t : GTables) : List V := t.enc.map .d ++ [.rv 5021, .rv 5023, .rv 5025]
theorem hideC (hx : List (Nat × Value)) (t : GTables) : (lkC t).map (V.hide hx) = t.enc.map .d ++ [V.hide hx (.rv 5021), V.hide hx (.rv 5023), V.hide hx (.rv 5025)] := by
  unfold lkC
  rw [List.map_append, List.map_map]
  congr 1
theorem hideOn (h : Nat) (hid : List Nat) (hh : (h = 5021 ∧ hid = [5023, 5025]) ∨ (h = 5023 ∧ hid = [5021, 5025]) ∨ (h = 5025 ∧ hid = [5021, 5023])) (t : GTables) (hx : List (Nat × Value)) (hk : hx.map Prod.fst = hid) : V.ons [5027, h] ((lkC t).map (V.hide hx)) = true := by
  rw [hideC, onsA]
  simp only [ons_dmap, Bool.true_and]
  obtain ⟨p, q, rfl⟩ : ∃ p q, hx = [p, q] := by
    have : hx.length = 2 := by rw [← List.length_map (f := Prod.fst), hk]; rcases hh with ⟨-, rfl⟩ | ⟨-, rfl⟩ | ⟨-, rfl⟩ <;> rfl
    match hx, this with
    | [p, q], _ => exact ⟨p, q, rfl⟩
  obtain ⟨p1, p2⟩ := p
  obtain ⟨q1, q2⟩ := q
  rcases hh with ⟨rfl, rfl⟩ | ⟨rfl, rfl⟩ | ⟨rfl, rfl⟩ <;> (simp at hk; obtain ⟨rfl, rfl⟩ := hk; simp [V.hide, V.ons, V.on, List.lookup])
theorem lMarkH (h : Nat) (hid : List Nat) (hh : (h = 5021 ∧ hid = [5023, 5025]) ∨ (h = 5023 ∧ hid = [5021, 5025]) ∨ (h = 5025 ∧ hid = [5021, 5023])) (b : Nat) (t : GTables) (l : List Bool) (i : Int) (hi : i < l.length) (hx : List (Nat × Value)) (hk : hx.map Prod.fst = hid) :
    ACalls Tryz.prog 58 [.rv h, .d (.v (.int .i64 i))] (hideL hx [(5027, .box (b + 1) 96 (lkC t)), (h, .row 4 1 (dd (encB l)))]) (fun r L => r = .ret (.tup []) ∧ L = hideL hx [(5027, .box (b + 1) 96 (lkC t)), (h, .row 4 1 (dd (encB (markI l i))))]) := by
  have hq := fun cs hcs => lMark_ok h (by omega) b cs hcs l i hi
  have hon := hideOn h hid hh t hx hk
  simp only [hideL, List.map_cons, List.map_nil, Res.hide]
  exact hq _ hon
theorem hideR {h b : Nat} {ty ty2 : TypeId} {cs : List V} (ys : List (List D)) (hx : List (Nat × Value)) (k : Nat) (hc : V.ons [5027, h] (cs.map (V.hide hx)) = true) : (hideL hx [(5027, .box (b + 1) ty cs), (h, .row ty2 k (dd ys))]).all (fun p => Res.on (keys [(5027, .box (b + 1) ty cs), (h, .row ty2 k (dd ys))]) p.2) = true := by
  simp [hideL, Res.hide, Res.on, keys]
  exact hc
def whenL (t : GTables) : List Int := t.Things.flatMap fun x => x.Ways.map GWay.When
def bgW (t : GTables) : List Bool := markL (markL (List.replicate t.Params.length false) (whenL t)) (t.Deeds.map GDeed.When)
def bgB (t : GTables) : List Bool := markL (List.replicate t.Params.length false) (t.Deeds.map GDeed.Body)
def bgF (t : GTables) : List Bool := markL (List.replicate t.Params.length false) t.Funcs
theorem lBegin_ok (b : GBook) (hb : b.wf) (hW : ∀ x ∈ b.Tables.Things, ∀ y ∈ x.Ways, y.When < b.Tables.Params.length) (hD : ∀ d ∈ b.Tables.Deeds, d.When < b.Tables.Params.length ∧ d.Body < b.Tables.Params.length) (hF : ∀ f ∈ b.Tables.Funcs, f < b.Tables.Params.length) (hP : b.Tables.Params.length ≤ 2048) :
    Pure Tryz.prog 26 [.agg (b.enc.map .d)] (.rp (b.Tables.enc ++ [.sl (encB (bgW b.Tables)), .sl (encB (bgF b.Tables)), .sl (encB (bgB b.Tables))])) := by
  refine Pure.runA Tryz.func26 rfl (by simp [Tryz.f26]) ?_
  simp only [Tryz.f26]
  refine AWP.seqK ?_
  simp [-cB]
  intro bs
  refine AWP.seqK ?_
  simp [-cB]
  refine AWP.merge ⟨[(4, .bp 27 0)], [(27, .box 0 96 (b.Tables.enc.map .d ++ [.rv 21, .rv 23, .rv 25])), (21, .row 4 1 (dd (encB (List.replicate b.Tables.Params.length false)))), (23, .row 4 1 (dd (encB (List.replicate b.Tables.Params.length false)))), (25, .row 4 1 (dd (encB (List.replicate b.Tables.Params.length false))))]⟩ ?_ ?_
  · refine AWP.regionE Tryz.mixed (OrdR.edge 3 5 (by decide) (OrdR.edge 3 7 (by decide) (OrdR.edge 5 7 (by decide) (OrdR.m0 [some (0, 3), some (0, 3), some (0, 0), none, some (0, 1), none, some (0, 2), none, some (3, 3), none, some (4, 4)] [] (by kernel_rfl) ?_) (OrdR.perm [0, 1, 2, 3, 4, 6, 7, 5, 8, 9, 10] [0, 1, 2, 3, 4, 7, 5, 6, 8, 9, 10] (by kernel_rfl) (by kernel_rfl) (OrdR.m0 [some (0, 3), some (0, 3), some (0, 0), none, some (0, 2), some (0, 1), none, none, some (3, 3), none, some (4, 4)] [] (by kernel_rfl) ?_))) (OrdR.perm [0, 1, 2, 4, 6, 7, 3, 5, 8, 9, 10] [0, 1, 2, 6, 3, 7, 4, 5, 8, 9, 10] (by kernel_rfl) (by kernel_rfl) (OrdR.m0 [some (0, 3), some (0, 3), some (0, 1), some (0, 2), some (0, 0), none, none, none, some (3, 3), none, some (4, 4)] [] (by kernel_rfl) ?_))) (OrdR.edge 3 7 (by decide) (OrdR.perm [0, 1, 2, 4, 5, 3, 6, 7, 8, 9, 10] [0, 1, 2, 5, 3, 4, 6, 7, 8, 9, 10] (by kernel_rfl) (by kernel_rfl) (OrdR.m0 [some (0, 3), some (0, 3), some (0, 1), some (0, 0), none, none, some (0, 2), none, some (3, 3), none, some (4, 4)] [] (by kernel_rfl) ?_)) (OrdR.edge 5 7 (by decide) (OrdR.perm [0, 1, 2, 4, 5, 6, 7, 3, 8, 9, 10] [0, 1, 2, 7, 3, 4, 5, 6, 8, 9, 10] (by kernel_rfl) (by kernel_rfl) (OrdR.m0 [some (0, 3), some (0, 3), some (0, 2), some (0, 0), none, some (0, 1), none, none, some (3, 3), none, some (4, 4)] [] (by kernel_rfl) ?_)) (OrdR.perm [0, 1, 2, 4, 6, 7, 5, 3, 8, 9, 10] [0, 1, 2, 7, 3, 6, 4, 5, 8, 9, 10] (by kernel_rfl) (by kernel_rfl) (OrdR.m0 [some (0, 3), some (0, 3), some (0, 2), some (0, 1), some (0, 0), none, none, none, some (3, 3), none, some (4, 4)] [] (by kernel_rfl) ?_)))))
    all_goals
      simp [-cB]
      refine ⟨⟨by unfold maxLen; omega, by omega⟩, fun bs1 => ?_⟩
      refine (Wk.rlx [27]).trans ?_
      unfold GTables.enc
      refine Wk.pick [4] [27, 21, 23, 25] (by rfl) (by decide) ?_
      simp [St.pick, St.rlx, St.on, V.on, V.ons, Res.rlx]
  · intro bs3
    refine AWP.ofK ?_
    simp [-cB]
    refine AWP.weaken (Wk.ren 27 5027 (by simp)) ?_
    simp [-cB, rensA, rens_d, V.rens, V.ren]
    refine AWP.weaken (Wk.ren 21 5021 (by simp)) ?_
    simp [-cB, rensA, rens_d, V.rens, V.ren]
    refine AWP.weaken (Wk.ren 23 5023 (by simp)) ?_
    simp [-cB, rensA, rens_d, V.rens, V.ren]
    refine AWP.weaken (Wk.ren 25 5025 (by simp)) ?_
    simp [-cB, rensA, rens_d, V.rens, V.ren]
    have hT := GTables.wl_Things hb.1
    generalize hn : List.replicate b.Tables.Params.length false = R at *
    have hRl : R.length = b.Tables.Params.length := by rw [← hn]; simp
    refine AWP.loopL [4, 5, 32, 33, 34] b.Tables.Things (fun pre => [(34, .d (.v (.int .i64 pre.length)))]) (fun pre => [(5021, .row 4 1 (dd (encB (markL R (pre.flatMap fun x => x.Ways.map GWay.When)))))]) (fun _ => True) (by rfl) (by omega) (by simp [markL, onsA]) ?_ ?_
    · rintro pre x post hsp - hlt hge a4
      have hx : x ∈ b.Tables.Things := by rw [hsp]; simp
      have hw := hW x hx
      have hwl := GThing.wl_Ways (GTables.wf_Things hb.1 x hx)
      have hsn : markL R (pre.flatMap (fun x => x.Ways.map GWay.When) ++ x.Ways.map GWay.When) = markL (markL R (pre.flatMap fun x => x.Ways.map GWay.When)) (x.Ways.map GWay.When) := by unfold markL; rw [List.foldl_append]
      have hS : (markL R (pre.flatMap fun x => x.Ways.map GWay.When)).length = b.Tables.Params.length := by simp [hRl]
      generalize markL R (pre.flatMap fun x => x.Ways.map GWay.When) = S at *
      clear hsp
      simp [-cB, hlt, hge, onsA]
      intro bs4
      refine AWP.loopL [4, 5, 32, 33, 34, 39, 40, 41] x.Ways (fun pre => [(41, .d (.v (.int .i64 pre.length)))]) (fun pre => [(5021, .row 4 1 (dd (encB (markL S (pre.map GWay.When)))))]) (fun _ => True) (by rfl) (by omega) (by simp [markL, onsA]) ?_ ?_
      · rintro pre' y post' hsp2 - hlt2 hge2 b4
        have hy := hw y (by rw [hsp2]; simp)
        have hsn3 : markL S ((pre' ++ [y]).map GWay.When) = markI (markL S (pre'.map GWay.When)) y.When := by unfold markL; simp
        have hq := fun bb hx hk => lMarkH 5021 [5023, 5025] (.inl ⟨rfl, rfl⟩) bb b.Tables (markL S (pre'.map GWay.When)) y.When (by simp [hS]; exact hy) hx hk
        rw [List.map_append, List.map_singleton] at hsn3
        generalize markL S (pre'.map GWay.When) = S2 at *
        clear hsp2
        unfold lkC at hq
        simp [-cB, hlt2, hge2, onsA]
        intro bs5
        refine AWP.regionM0 [some (0, 0), some (0, 0), some (0, 0), some (0, 0), some (0, 0), some (0, 0), some (0, 0), none] [] Tryz.mixed (by kernel_rfl) ?_
        simp [-cB, onsA]
        refine EffM.intro (fun _ => LOp.callH (s := ⟨_, _⟩) 5021 [5027, 5021] [5023, 5025] rfl (hq _) rfl rfl (by kernel_rfl) (by first | rfl | simp) (by simp) ⟨by simp, fun hx hk => hideR _ _ _ (hideOn 5021 _ (.inl ⟨rfl, rfl⟩) b.Tables hx hk), by simp⟩ (boxes_stay (by simp)) (by simp [onsA]) (by simp)) ?_
        simp [-cB, onsA, b4, hsn3]
      · intro _
        simp [-cB, a4, onsA, hsn]
    · intro _
      have hD2 := GTables.wl_Deeds hb.1
      have hF2 := GTables.wl_Funcs hb.1
      simp [-cB]
      have eW : b.Tables.Things.flatMap (fun x => x.Ways.map GWay.When) = whenL b.Tables := rfl
      rw [eW]
      have hWl : (markL R (whenL b.Tables)).length = b.Tables.Params.length := by simp [hRl]
      have hbw : bgW b.Tables = markL (markL R (whenL b.Tables)) (b.Tables.Deeds.map GDeed.When) := by unfold bgW; rw [hn]
      have hbb : bgB b.Tables = markL R (b.Tables.Deeds.map GDeed.Body) := by unfold bgB; rw [hn]
      have hbf : bgF b.Tables = markL R b.Tables.Funcs := by unfold bgF; rw [hn]
      rw [hbw, hbb, hbf]
      generalize markL R (whenL b.Tables) = W1 at *
      refine AWP.loopL [4, 5, 59, 60, 61] b.Tables.Deeds (fun pre => [(61, .d (.v (.int .i64 pre.length)))]) (fun pre => [(5021, .row 4 1 (dd (encB (markL W1 (pre.map GDeed.When))))), (5025, .row 4 1 (dd (encB (markL R (pre.map GDeed.Body)))))]) (fun _ => True) (by rfl) (by omega) (by simp [markL, onsA]) ?_ ?_
      · rintro pre y post hsp - hlt hge a4
        obtain ⟨hy1, hy2⟩ := hD y (by rw [hsp]; simp)
        have hs1 : markL W1 (pre.map GDeed.When ++ [y.When]) = markI (markL W1 (pre.map GDeed.When)) y.When := by unfold markL; simp
        have hs2 : markL R (pre.map GDeed.Body ++ [y.Body]) = markI (markL R (pre.map GDeed.Body)) y.Body := by unfold markL; simp
        have hq := fun bb hx hk => lMarkH 5021 [5023, 5025] (.inl ⟨rfl, rfl⟩) bb b.Tables (markL W1 (pre.map GDeed.When)) y.When (by simp [hWl]; exact hy1) hx hk
        have hq2 := fun bb hx hk => lMarkH 5025 [5021, 5023] (.inr (.inr ⟨rfl, rfl⟩)) bb b.Tables (markL R (pre.map GDeed.Body)) y.Body (by simp [hRl]; exact hy2) hx hk
        unfold lkC at hq hq2
        generalize markL W1 (pre.map GDeed.When) = S1 at *
        generalize markL R (pre.map GDeed.Body) = S2 at *
        clear hsp
        simp [-cB, hlt, hge, onsA]
        intro bs5
        refine AWP.regionM0 [some (0, 0), some (0, 0), some (0, 0), some (0, 0), some (0, 0), some (0, 0), some (0, 0), none] [] Tryz.mixed (by kernel_rfl) ?_
        simp [-cB, onsA]
        refine EffM.intro (fun _ => LOp.callH (s := ⟨_, _⟩) 5021 [5027, 5021] [5023, 5025] rfl (hq _) rfl rfl (by kernel_rfl) (by first | rfl | simp) (by simp) ⟨by simp, fun hx hk => hideR _ _ _ (hideOn 5021 _ (.inl ⟨rfl, rfl⟩) b.Tables hx hk), by simp⟩ (boxes_stay (by simp)) (by simp [onsA]) (by simp)) ?_
        simp [-cB, onsA]
        refine AWP.regionM0 [some (0, 0), some (0, 0), some (0, 0), some (0, 0), some (0, 0), some (0, 0), some (0, 0), none] [] Tryz.mixed (by kernel_rfl) ?_
        simp [-cB, onsA]
        refine EffM.intro (fun _ => LOp.callH (s := ⟨_, _⟩) 5025 [5027, 5025] [5021, 5023] rfl (hq2 _) rfl rfl (by kernel_rfl) (by first | rfl | simp) (by simp) ⟨by simp, fun hx hk => hideR _ _ _ (hideOn 5025 _ (.inr (.inr ⟨rfl, rfl⟩)) b.Tables hx hk), by simp⟩ (boxes_stay (by simp)) (by simp [onsA]) (by simp)) ?_
        simp [-cB, onsA, a4, hs1, hs2]
      · intro _
        simp [-cB]
        generalize markL W1 (b.Tables.Deeds.map GDeed.When) = W2 at *
        generalize markL R (b.Tables.Deeds.map GDeed.Body) = B2 at *
        refine AWP.loopL [4, 5, 86, 87, 88] b.Tables.Funcs (fun pre => [(88, .d (.v (.int .i64 pre.length)))]) (fun pre => [(5023, .row 4 1 (dd (encB (markL R pre))))]) (fun _ => True) (by rfl) (by omega) (by simp [markL, onsA]) ?_ ?_
        · rintro pre y post hsp - hlt hge a4
          have hy := hF y (by rw [hsp]; simp)
          have hs1 : markL R (pre ++ [y]) = markI (markL R pre) y := by unfold markL; simp
          have hq := fun bb => lMark3_ok bb (b.Tables.enc.map .d ++ [.rv 5021, .rv 5023, .rv 5025]) (by simp [onsA]) W2 (markL R pre) B2 y (by simp [hRl]; exact hy)
          generalize markL R pre = S1 at *
          clear hsp
          simp [-cB, hlt, hge, onsA]
          refine AOps.effY [5027, 5021, 5023, 5025] rfl (hq _) (by simp) rfl (by simp) rfl (by kernel_rfl) (by first | rfl | simp [onsA]) (by simp) (by simp [onsA]) (by simp) (by simp) (boxes_stay (by simp)) ?_
          simp [-cB, List.filter, V.on, V.ons]
          simp [-cB, hlt, onsA, a4, hs1]
        · intro _
          simp [-cB]
          have hce := fun L => cellsD_map (L := L) b.Tables.enc (by unfold GTables.enc; simp)
          rw [cellsA (hce _) (y := [D.sl (encB W2), D.sl (encB (markL R b.Tables.Funcs)), D.sl (encB B2)]) (by simp [cellsD, cellD])]
end Go.Ab

namespace Go.Ab
open Go.Proofs
set_option maxHeartbeats 4000000
set_option maxRecDepth 20000
theorem lStands1_ok (k : Int) (s : GStmt) (hb : Pure Tryz.prog 60 [.d (.sl (s.Body.map GStmt.enc)), .d (.v (.int .i64 k))] (.d (.v (.bool (hasKB k s.Body))))) (he : Pure Tryz.prog 60 [.d (.sl (s.Else.map GStmt.enc)), .d (.v (.int .i64 k))] (.d (.v (.bool (hasKB k s.Else))))) :
    Pure Tryz.prog 107 [.agg (s.enc.map .d), .rp [.v (.int .i64 k)]] (.d (.v (.bool (hasKS k s)))) := by
  rw [hasKS_eq]
  generalize hasKB k s.Body = b at *
  generalize hasKB k s.Else = c at *
  refine Pure.run Tryz.func107 rfl (by simp [Tryz.f107]) ?_; simp [-cB, Tryz.f107]
  repeat' (first
    | (with_reducible refine And.intro ?_ ?_)
    | (refine condC_split (fun h => ?_) (fun h => ?_) <;> (try simp at h) <;> (try simp [-cB, *]))
    | (refine AOps.pureC rfl (hb) rfl rfl (by simp) rfl ?_ <;> (try simp [-cB, *]))
    | (refine AOps.pureC rfl (he) rfl rfl (by simp) rfl ?_ <;> (try simp [-cB, *]))
    | (refine AOps.lendC rfl (hb) rfl (by simp) rfl rfl (by simp) rfl ?_ <;> (try simp [-cB, *]))
    | (refine AOps.lendC rfl (he) rfl (by simp) rfl rfl (by simp) rfl ?_ <;> (try simp [-cB, *]))
    | (refine AOps.pureG rfl (fun h => hb) rfl (by first | rfl | (simp; rfl)) (by simp) (by simp) rfl ?_ <;> (try simp [-cB, *]))
    | (refine AOps.pureG rfl (fun h => he) rfl (by first | rfl | (simp; rfl)) (by simp) (by simp) rfl ?_ <;> (try simp [-cB, *]))
    | (with_reducible intro _))
  all_goals first | (simp_all; done) | grind | skip
theorem lStands_ok (k : Int) : ∀ (N : Nat) (l : List GStmt), SizeOf.sizeOf l < N → (∀ s ∈ l, s.wf) → l.length * 104 ≤ 140737488351232 → Pure Tryz.prog 60 [.d (.sl (l.map GStmt.enc)), .d (.v (.int .i64 k))] (.d (.v (.bool (hasKB k l))))
  | 0, l, h, _, _ => by omega
  | N + 1, l, h, hw, hl => by
    have hsub : ∀ s ∈ l, Pure Tryz.prog 107 [.agg (s.enc.map .d), .rp [.v (.int .i64 k)]] (.d (.v (.bool (hasKS k s)))) := fun s hs => by
      have h1 := List.sizeOf_lt_of_mem hs
      have h2 := GStmt.lt_body s
      have h3 := GStmt.lt_else s
      have hs' := hw s hs
      exact lStands1_ok k s (lStands_ok k N _ (by omega) (GStmt.wf_Body hs') (GStmt.wl_Body hs')) (lStands_ok k N _ (by omega) (GStmt.wf_Else hs') (GStmt.wl_Else hs'))
    have hq := anyS_ok l (by omega) 107 [.rp [.v (.int .i64 k)]] rfl (hasKS k) hsub
    rw [← hasKB_any] at hq
    generalize hasKB k l = b at *
    clear hsub
    refine Pure.run Tryz.func60 rfl (by simp [Tryz.f60]) ?_; simp [-cB, Tryz.f60]
    intro bs
    refine AOps.weaken (Wk.freezeB 3 (ds := [.v (.int .i64 k)]) rfl) ?_
    simp [-cB]
    repeat' (first
      | (with_reducible refine And.intro ?_ ?_)
      | (refine condC_split (fun h => ?_) (fun h => ?_) <;> (try simp at h) <;> (try simp [-cB, *]))
      | (refine AOps.pureC rfl (hq) rfl rfl (by simp) rfl ?_ <;> (try simp [-cB, *]))
      | (refine AOps.lendC rfl (hq) rfl (by simp) rfl rfl (by simp) rfl ?_ <;> (try simp [-cB, *]))
      | (refine AOps.pureG rfl (fun h => hq) rfl (by first | rfl | (simp; rfl)) (by simp) (by simp) rfl ?_ <;> (try simp [-cB, *]))
      | (with_reducible intro _))
end Go.Ab

namespace Go.Ab
open Go.Proofs
set_option maxHeartbeats 4000000
set_option maxRecDepth 20000
def linkE (t : GTables) (W F B : List Bool) : List D := t.enc ++ [.sl (encB W), .sl (encB F), .sl (encB B)]
def mayB (t : GTables) (W F B : List Bool) (i : Nat) (l : List GStmt) : Bool :=
  boundE t l (getI t.Locals i) && ((F[i]?.getD false || W[i]?.getD false || !hasKB 12 l) && (B[i]?.getD false || !hasKB 13 l))
theorem lMay_ok (t : GTables) (ht : t.wf) (W F B : List Bool) (i : Nat) (hi : i < t.Locals.length) (h1 : W.length = t.Locals.length) (h2 : F.length = t.Locals.length) (h3 : B.length = t.Locals.length) (l : List GStmt) (hw : ∀ s ∈ l, s.wf) (hl : l.length * 104 ≤ 140737488351232) :
    Pure Tryz.prog 27 [.rp (linkE t W F B), .d (.v (.int .i64 i)), .d (.sl (l.map GStmt.enc))] (.d (.v (.bool (mayB t W F B i l)))) := by
  have hlo := GTables.wf_Locals ht _ (List.getElem_mem hi)
  rw [inR_i64] at hlo
  have hgi : getI t.Locals i = t.Locals[i] := by unfold getI; rw [Int.toNat_natCast, List.getElem?_eq_getElem hi]; rfl
  have hq1 := tBound_ok t ht l hw hl t.Locals[i] (by omega)
  have hq2 := lStands_ok 12 _ l (Nat.lt_succ_self _) hw hl
  have hq3 := lStands_ok 13 _ l (Nat.lt_succ_self _) hw hl
  unfold mayB
  rw [hgi]
  have eW : W[i]? = some (W[i]?.getD false) := by rw [List.getElem?_eq_getElem (by omega)]; rfl
  have eF : F[i]? = some (F[i]?.getD false) := by rw [List.getElem?_eq_getElem (by omega)]; rfl
  have eB : B[i]? = some (B[i]?.getD false) := by rw [List.getElem?_eq_getElem (by omega)]; rfl
  generalize boundE t l t.Locals[i] = b at *
  generalize hasKB 12 l = k12 at *
  generalize hasKB 13 l = k13 at *
  generalize W[i]?.getD false = w at *
  generalize F[i]?.getD false = f at *
  generalize B[i]?.getD false = bo at *
  have hlt : i < W.length := by omega
  have hlt2 : i < F.length := by omega
  have hlt3 : i < B.length := by omega
  unfold linkE
  have g14 : (t.enc ++ [D.sl (encB W), D.sl (encB F), D.sl (encB B)])[14]? = some (.sl (encI t.Locals)) := rfl
  have g16 : (t.enc ++ [D.sl (encB W), D.sl (encB F), D.sl (encB B)])[15]? = some (.sl (encB W)) := rfl
  have g17 : (t.enc ++ [D.sl (encB W), D.sl (encB F), D.sl (encB B)])[16]? = some (.sl (encB F)) := rfl
  have g18 : (t.enc ++ [D.sl (encB W), D.sl (encB F), D.sl (encB B)])[17]? = some (.sl (encB B)) := rfl
  have gt : (t.enc ++ [D.sl (encB W), D.sl (encB F), D.sl (encB B)]).take 15 = t.enc := rfl
  have gl : (t.enc ++ [D.sl (encB W), D.sl (encB F), D.sl (encB B)]).length = 18 := rfl
  have k1 := hq1.ok
  generalize t.enc ++ [D.sl (encB W), D.sl (encB F), D.sl (encB B)] = lk at *
  have e14 : ∀ h, lk[14]'h = .sl (encI t.Locals) := fun h => by rw [List.getElem?_eq_getElem h] at g14; exact Option.some.inj g14
  have e16 : ∀ h, lk[15]'h = .sl (encB W) := fun h => by rw [List.getElem?_eq_getElem h] at g16; exact Option.some.inj g16
  have e17 : ∀ h, lk[16]'h = .sl (encB F) := fun h => by rw [List.getElem?_eq_getElem h] at g17; exact Option.some.inj g17
  have e18 : ∀ h, lk[17]'h = .sl (encB B) := fun h => by rw [List.getElem?_eq_getElem h] at g18; exact Option.some.inj g18
  refine Pure.run Tryz.func27 rfl (by simp [Tryz.f27]) ?_
  simp [-cB, Tryz.f27]
  refine AWP.regionD [.d (.v (.bool b))] Tryz.mixed (by kernel_rfl) (by rfl) ?_
  simp [-cB, *]
  repeat' (first
    | (with_reducible refine And.intro ?_ ?_)
    | (refine condC_split (fun h => ?_) (fun h => ?_) <;> (try simp at h) <;> (try simp [-cB, *]))
    | (refine AOps.pureC rfl (hq2) rfl rfl (by simp) rfl ?_ <;> (try simp [-cB, *]))
    | (refine AOps.pureC rfl (hq3) rfl rfl (by simp) rfl ?_ <;> (try simp [-cB, *]))
    | (refine AOps.lendC rfl (hq2) rfl (by simp) rfl rfl (by simp) rfl ?_ <;> (try simp [-cB, *]))
    | (refine AOps.lendC rfl (hq3) rfl (by simp) rfl rfl (by simp) rfl ?_ <;> (try simp [-cB, *]))
    | (refine AOps.pureG rfl (fun h => hq2) rfl (by first | rfl | (simp; rfl)) (by simp) (by simp) rfl ?_ <;> (try simp [-cB, *]))
    | (refine AOps.pureG rfl (fun h => hq3) rfl (by first | rfl | (simp; rfl)) (by simp) (by simp) rfl ?_ <;> (try simp [-cB, *]))
    | (with_reducible intro _))
  all_goals first | (simp_all; done) | grind | skip
end Go.Ab

namespace Go.Ab
open Go.Proofs
set_option maxHeartbeats 4000000
set_option maxRecDepth 20000
theorem fits_things {t : GTables} (h : fitsB t = true) : 3 ≤ t.Things.length ∧ t.Things.length ≤ 128 := by
  simp only [fitsB, thingsB, Bool.and_eq_true, fromB_iff] at h
  omega
theorem fits_thing {t : GTables} (h : fitsB t = true) {x : GThing} (hx : x ∈ t.Things) : x = thingAt t 0 ∧ x.Ways = [] ∧ x.Room = false ∨ thingOk t x = true := by
  have hn := fits_things h
  simp only [fitsB, thingsB, Bool.and_eq_true] at h
  obtain ⟨k, hk, rfl⟩ := List.getElem_of_mem hx
  cases k with
  | zero =>
    left
    have h0 : thingAt t 0 = t.Things[0] := (thingAt_elem (t := t) (n := 0) (by omega)).symm
    have := h.1.2.1.1.1.1.2
    rw [h0] at this
    simp only [nothingB, Bool.and_eq_true] at this
    refine ⟨h0.symm, ?_, ?_⟩
    · have h1 := this.1.2
      simp at h1
      have : t.Things[0].Ways.length = 0 := by simp [h1]
      exact List.length_eq_zero_iff.1 this
    · simpa using this.1.1.1.2
  | succ k =>
    right
    have := allB_iff.1 h.1.2.1.1.2 (t.Things[k + 1]) (by
      rw [List.drop_one]
      have : t.Things.tail[k]'(by simp; omega) = t.Things[k + 1] := by simp
      rw [← this]; exact List.getElem_mem _)
    exact this
theorem ways_all {t : GTables} : ∀ (l : List GWay) (p : Option GWay), waysM t p l = true → ∀ w ∈ l, fromB w.Dir 1 12 = true ∧ thingB t w.To = true ∧ roomB t w.To = true ∧ routB t w.When true = true ∧ textB t w.Else true = true
  | [], _, _, w, hw => by cases hw
  | y :: l, p, h, w, hw => by
    simp only [waysM, wayB, Bool.and_eq_true] at h
    rcases List.mem_cons.1 hw with rfl | hw
    · exact ⟨h.1.1.1.1.1.1, h.1.1.1.1.2, h.1.1.1.2, h.1.1.2, h.1.2⟩
    · exact ways_all l (some y) h.2 w hw
theorem fits_way {t : GTables} (h : fitsB t = true) {x : GThing} (hx : x ∈ t.Things) {w : GWay} (hw : w ∈ x.Ways) : fromB w.Dir 1 12 = true ∧ thingB t w.To = true ∧ roomB t w.To = true ∧ routB t w.When true = true ∧ textB t w.Else true = true := by
  rcases fits_thing h hx with ⟨_, h1, _⟩ | h1
  · rw [h1] at hw; cases hw
  · simp only [thingOk, Bool.and_eq_true] at h1
    exact ways_all _ _ h1.2 w hw
theorem rout_lt {t : GTables} {n : Int} {b : Bool} (h : routB t n b = true) : n < t.Params.length := by
  unfold routB fromB at h; simp at h; omega
theorem fits_head {t : GTables} (hf : fitsB t = true) : t.Params.length ≤ 2048 ∧ t.Params.length = t.Locals.length ∧ (∀ p ∈ t.Params, p ≤ 8) ∧ (∀ n ∈ t.Funcs, n < t.Params.length) ∧ (∀ d ∈ t.Deeds, d.When < t.Params.length ∧ d.Body < t.Params.length) := by
  unfold fitsB headB rulesB at hf
  simp only [Bool.and_eq_true, decide_eq_true_eq, fromB, allB, List.all_eq_true, List.mem_range] at hf
  obtain ⟨⟨⟨⟨⟨h1, h2⟩, h3⟩, h4⟩, h5⟩, h6⟩ := hf
  refine ⟨h2.2, h2.1.2, fun p hp => ?_, fun n hn => by have := h6.2.2.2.1 n hn; omega, fun d hd => ?_⟩
  · obtain ⟨k, hk, rfl⟩ := List.getElem_of_mem hp
    have := h4 k hk
    unfold paramB fromB at this
    simp [hk] at this
    omega
  · have := h6.2.2.1 d hd
    unfold deedB at this
    simp only [Bool.and_eq_true] at this
    exact ⟨rout_lt this.1.2, rout_lt this.2⟩
theorem mark_rep (is : List Int) (n k : Nat) (h : k < n) : (markL (List.replicate n false) is)[k]?.getD false = is.any fun i => decide (i = k) := by
  rw [markL_get _ _ _ (by simpa using h)]
  simp [h]
theorem may_good (b : GBook) (hf : fitsB b.Tables = true) (i : Nat) (hi : i < b.Tables.Params.length) : mayB b.Tables (bgW b.Tables) (bgF b.Tables) (bgB b.Tables) i (b.Routines[i]?.getD []) = goodR b i := by
  obtain ⟨h1, h2, h3, h4, h5⟩ := fits_head hf
  unfold mayB goodR
  rw [boundE_eq _ h3]
  have e1 : getI b.Tables.Locals i = b.Tables.Locals[i]?.getD 0 := by unfold getI; rw [Int.toNat_natCast]
  have eF : (bgF b.Tables)[i]?.getD false = b.Tables.Funcs.any fun f => decide (f = i) := mark_rep _ _ _ hi
  have eB : (bgB b.Tables)[i]?.getD false = ruledB b.Tables i := by unfold bgB ruledB; rw [mark_rep _ _ _ hi, List.any_map]; rfl
  have eW : (bgW b.Tables)[i]?.getD false = ((b.Tables.Things.any fun x => x.Ways.any fun w => decide (w.When = i)) || b.Tables.Deeds.any fun d => decide (d.When = i)) := by
    unfold bgW
    rw [markL_get _ _ _ (by simpa using hi)]
    simp only [Option.getD_some]
    rw [mark_rep _ _ _ hi, List.any_map]
    unfold whenL
    rw [List.any_flatMap]
    simp only [List.any_map, Function.comp_def]
  rw [e1, eF, eB, eW]
  unfold calledB
  generalize hasKB 12 _ = k12
  generalize hasKB 13 _ = k13
  generalize (b.Tables.Funcs.any fun f => decide (f = (i : Int))) = c1
  generalize (b.Tables.Deeds.any fun d => decide (d.When = (i : Int))) = c2
  generalize (b.Tables.Things.any fun x => x.Ways.any fun w => decide (w.When = (i : Int))) = c3
  generalize ruledB b.Tables i = c4
  generalize (decide (deepB (b.Routines[i]?.getD []) 65 ≤ 32) && boundB b.Tables (b.Tables.Locals[i]?.getD 0) (b.Routines[i]?.getD [])) = c5
  cases k12 <;> cases k13 <;> cases c1 <;> cases c2 <;> cases c3 <;> cases c4 <;> cases c5 <;> rfl
theorem lRight_ok (b : GBook) (hb : b.wf) : Pure Tryz.prog 15 [.agg (b.enc.map .d)] (.d (.v (.bool (rightBookB b)))) := by
  have hqF : Pure Tryz.prog 25 [.agg (b.Tables.enc.map .d)] (.d (.v (.bool (fitsB b.Tables)))) := by rw [← fitsP_eq]; exact wFits_ok b.Tables hb.1
  have hwr := hb.2
  unfold rightBookB
  cases hf : fitsB b.Tables with
  | false =>
    rw [hf] at hqF
    refine Pure.run Tryz.func15 rfl (by simp [Tryz.f15]) ?_; simp [-cB, Tryz.f15]
    repeat' (first
      | (with_reducible refine And.intro ?_ ?_)
      | (refine condC_split (fun h => ?_) (fun h => ?_) <;> (try simp at h) <;> (try simp [-cB, *]))
      | (refine AOps.pureC rfl (hqF) rfl rfl (by simp) rfl ?_ <;> (try simp [-cB, *]))
      | (refine AOps.lendC rfl (hqF) rfl (by simp) rfl rfl (by simp) rfl ?_ <;> (try simp [-cB, *]))
      | (refine AOps.pureG rfl (fun h => hqF) rfl (by first | rfl | (simp; rfl)) (by simp) (by simp) rfl ?_ <;> (try simp [-cB, *]))
      | (with_reducible intro _))
    all_goals first | (simp_all; done) | grind | skip
  | true =>
    rw [hf] at hqF
    obtain ⟨h1, h2, h3, h4, h5⟩ := fits_head hf
    by_cases hn : b.Routines.length = b.Tables.Params.length
    · have hq := lBegin_ok b hb (fun x hx y hy => rout_lt (fits_way hf hx hy).2.2.2.1) h5 h4 h1
      have hg := fun i hi => may_good b hf i hi
      have hW : (bgW b.Tables).length = b.Tables.Locals.length := by unfold bgW; simp [h2]
      have hF : (bgF b.Tables).length = b.Tables.Locals.length := by unfold bgF; simp [h2]
      have hB : (bgB b.Tables).length = b.Tables.Locals.length := by unfold bgB; simp [h2]
      have hm := fun i hi l hw hl => lMay_ok b.Tables hb.1 (bgW b.Tables) (bgF b.Tables) (bgB b.Tables) i hi hW hF hB l hw hl
      unfold linkE at hm
      generalize b.Tables.enc ++ [.sl (encB (bgW b.Tables)), .sl (encB (bgF b.Tables)), .sl (encB (bgB b.Tables))] = lk at *
      have hni : (b.Routines.length : Int) = b.Tables.Params.length := by omega
      have hall : ∀ i, i < b.Routines.length → goodR b i = false → (List.range b.Routines.length).all (goodR b) = false := fun i hi hgi => by
        rw [List.all_eq_false]; exact ⟨i, List.mem_range.2 hi, by simp [hgi]⟩
      have hlen := hwr.1
      refine Pure.run Tryz.func15 rfl (by simp [Tryz.f15]) ?_; simp [-cB, Tryz.f15]
      intro bs
      refine AOps.pureC rfl (hqF) rfl rfl (by simp) rfl ?_
      simp [-cB, hn, hni]
      repeat' (first
        | (with_reducible refine And.intro ?_ ?_)
        | (refine condC_split (fun h => ?_) (fun h => ?_) <;> (try simp at h) <;> (try simp [-cB, *, hn, hni]))
        | (refine AOps.pureC rfl (hq) rfl rfl (by simp) rfl ?_ <;> (try simp [-cB, *, hn, hni]))
        | (refine AOps.lendC rfl (hq) rfl (by simp) rfl rfl (by simp) rfl ?_ <;> (try simp [-cB, *, hn, hni]))
        | (refine AOps.pureG rfl (fun h => hq) rfl (by first | rfl | (simp; rfl)) (by simp) (by simp) rfl ?_ <;> (try simp [-cB, *, hn, hni]))
        | (with_reducible intro _))
      refine AWP.loopS [3, 23, 24, 25] b.Routines.length (fun i => [(25, .d (.v (.int .i64 i)))]) (fun _ => []) (fun i => (List.range i).all (goodR b) = true) (by rfl) (by simp) ?_
      intro i hi hH
      rcases Nat.lt_or_eq_of_le hi with hlt | heq
      · have hge : b.Routines[i]? = some b.Routines[i] := List.getElem?_eq_getElem hlt
        obtain ⟨hw1, hw2⟩ := hwr.2 _ (List.getElem_mem hlt)
        have hm := hm i (by omega) b.Routines[i] hw2 hw1
        have hg := hg i (by omega)
        rw [hge] at hg
        simp only [Option.getD_some] at hg
        rw [hg] at hm
        have hall := hall i hlt
        have hsn : (List.range (i + 1)).all (goodR b) = goodR b i := by rw [List.range_succ, List.all_append, hH]; simp
        have h64 : inR .i64 ((i : Int) + 1) := by rw [inR_i64]; omega
        have hlt' : (i : Int) < b.Routines.length := by omega
        generalize goodR b i = g at *
        generalize hl : b.Routines[i] = l at *
        simp [-cB, hlt, hlt', hge, hl]
        repeat' (first
          | (with_reducible refine And.intro ?_ ?_)
          | (refine condC_split (fun h => ?_) (fun h => ?_) <;> (try simp at h) <;> (try simp [-cB, *]))
          | (refine AOps.pureC rfl (hm) rfl rfl (by simp) rfl ?_ <;> (try simp [-cB, *]))
          | (refine AOps.lendC rfl (hm) rfl (by simp) rfl rfl (by simp) rfl ?_ <;> (try simp [-cB, *]))
          | (refine AOps.pureG rfl (fun h => hm) rfl (by first | rfl | (simp; rfl)) (by simp) (by simp) rfl ?_ <;> (try simp [-cB, *]))
          | (with_reducible intro _))
        all_goals first | (simp_all; done) | grind | skip
      · rw [heq, hn, h2] at hH
        simp [-cB, heq, hH, hn, h2]
    · have hni : ¬ (b.Routines.length : Int) = b.Tables.Params.length := by omega
      refine Pure.run Tryz.func15 rfl (by simp [Tryz.f15]) ?_; simp [-cB, Tryz.f15]
      repeat' (first
        | (with_reducible refine And.intro ?_ ?_)
        | (refine condC_split (fun h => ?_) (fun h => ?_) <;> (try simp at h) <;> (try simp [-cB, *]))
        | (refine AOps.pureC rfl (hqF) rfl rfl (by simp) rfl ?_ <;> (try simp [-cB, *]))
        | (refine AOps.lendC rfl (hqF) rfl (by simp) rfl rfl (by simp) rfl ?_ <;> (try simp [-cB, *]))
        | (refine AOps.pureG rfl (fun h => hqF) rfl (by first | rfl | (simp; rfl)) (by simp) (by simp) rfl ?_ <;> (try simp [-cB, *]))
        | (with_reducible intro _))
      all_goals first | (simp_all; done) | grind | skip
end Go.Ab

namespace Go.Ab
open Go.Proofs
def stM (b : GBook) : Nat → List Int × List Int
  | 0 => ([], [])
  | i + 1 => ((stM b i).1 ++ [((stM b i).2.length : Int)], (stM b i).2 ++ (codeM b i).1)
def firstE (b : GBook) : Nat → Nat → Int
  | 0, _ => 0
  | n + 1, i => if (codeM b i).2 = 0 then firstE b n (i + 1) else (codeM b i).2
def storyM (b : GBook) : GStory × Int :=
  if rightBookB b = false then (GStory.zero, 18)
  else if firstE b b.Routines.length 0 ≠ 0 then (GStory.zero, firstE b b.Routines.length 0)
  else if 65536 < (stM b b.Routines.length).2.length then (GStory.zero, 3)
  else (⟨b.Tables, (stM b b.Routines.length).1, (stM b b.Routines.length).2⟩, 0)
theorem ons_app (ks : List Nat) : ∀ (a b : List V), V.ons ks (a ++ b) = (V.ons ks a && V.ons ks b)
  | [], b => by simp [V.ons]
  | x :: a, b => by simp [V.ons, ons_app ks a b, Bool.and_assoc]
theorem asm_len (l : List GIns) : (asmM l).1.length ≤ 3 * l.length := by
  obtain ⟨z, hz, hf, _⟩ := sizesM_ok (3 * l.length + 1) (zipZ l) (zipZ_ok l) (by simp [zipZ]; omega)
  rw [zipZ_fst] at hf
  have hzl : z.length = l.length := by simpa using congrArg List.length hf
  have := codeZ_le z 0 z
  unfold asmM
  split
  · simp
  · rw [hz]
    simp only
    split
    · simp
    · split
      · simp
      · simp only; omega
theorem code_len (b : GBook) (hR : ∀ l ∈ b.Routines, szB l ≤ 30000000) (i : Int) : (codeM b i).1.length ≤ 2000000000 := by
  unfold codeM
  split
  · simp
  · rename_i hi
    have hil : i.toNat < b.Routines.length := by omega
    have h2 := hR b.Routines[i.toNat] (List.getElem_mem hil)
    have h1 := asm_len (peepM (codeX b i))
    have hp : (peepM (codeX b i)).length ≤ (codeX b i).length := allM_len _ _
    have bd := genB_bd' b.Routines[i.toNat] 0
    have hcx : codeX b i = (genB b.Routines[i.toNat] 0).1 ++ [⟨1, 0⟩, ⟨27, 0⟩] := by
      unfold codeX
      rw [if_pos (by unfold inL; omega), List.getElem?_eq_getElem hil]
      rfl
    have hl : (codeX b i).length ≤ 500000000 := by rw [hcx]; simp; omega
    omega
theorem st_len (b : GBook) (hR : ∀ l ∈ b.Routines, szB l ≤ 30000000) : ∀ i : Nat, (stM b i).1.length = i ∧ (stM b i).2.length ≤ 2000000000 * i
  | 0 => ⟨rfl, Nat.le_refl _⟩
  | i + 1 => by
    obtain ⟨h1, h2⟩ := st_len b hR i
    have h3 := code_len b hR i
    rw [stM]
    constructor
    · simp [h1]
    · simp only [List.length_append]; omega
end Go.Ab

namespace Go.Ab
open Go.Proofs
set_option maxHeartbeats 4000000
set_option maxRecDepth 20000
theorem lCode_ok (b : GBook) (hb : b.wf) (hR : ∀ l ∈ b.Routines, WBlock l ∧ szB l ≤ 30000000) (i : Int) : Pure Tryz.prog 24 [.agg (b.enc.map .d), intD i] (.tup [bytD (codeM b i).1, intD (codeM b i).2]) := by
  have hlen := GBook.wl_Routines hb
  by_cases hi : i < 0 ∨ (b.Routines.length : Int) ≤ i
  · have hc : codeM b i = ([], 11) := by unfold codeM; rw [if_pos hi]
    rw [hc]
    refine Pure.run Tryz.func24 rfl (by simp [Tryz.f24]) ?_; simp [-cB, Tryz.f24]
    intro bs
    repeat' (first
      | (with_reducible refine And.intro ?_ ?_)
      | (refine condC_split (fun h => ?_) (fun h => ?_) <;> (try simp at h) <;> (try simp [-cB, *]))
      | (with_reducible intro _))
    all_goals first | rfl | omega
  · have hc : codeM b i = asmM (peepM (codeX b i)) := by unfold codeM; rw [if_neg hi]
    rw [hc]
    have hil : i.toNat < b.Routines.length := by omega
    obtain ⟨h1, h2⟩ := hR b.Routines[i.toNat] (List.getElem_mem hil)
    have hcx : codeX b i = (genB b.Routines[i.toNat] 0).1 ++ [⟨1, 0⟩, ⟨27, 0⟩] := by
      unfold codeX
      rw [if_pos (by unfold inL; omega), List.getElem?_eq_getElem hil]
      rfl
    have bd := genB_bd' b.Routines[i.toNat] 0
    have hl : (codeX b i).length ≤ 1000000000 := by rw [hcx]; simp; omega
    have hg := genRoutine_ok b.Routines[i.toNat] h1 h2
    rw [← hcx] at hg
    have ha := pAll_ok (codeX b i) (by omega)
    have hp : (peepM (codeX b i)).length ≤ (codeX b i).length := allM_len _ _
    have hs := asmAsm_ok (peepM (codeX b i)) (by omega)
    refine Pure.run Tryz.func24 rfl (by simp [Tryz.f24]) ?_; simp [-cB, Tryz.f24]
    intro bs
    have hi1 : ¬ i < 0 := by omega
    have hi2 : ¬ (b.Routines.length : Int) ≤ i := by omega
    simp [-cB, hi1, hi2, List.getElem?_eq_getElem hil]
    refine ⟨by omega, ?_⟩
    refine AOps.pureC rfl (hg) rfl rfl (by simp) rfl ?_
    simp
    refine AOps.pureC rfl (ha) rfl rfl (by simp) rfl ?_
    simp
    refine AOps.pureC rfl (hs) rfl rfl (by simp) rfl ?_
    simp
theorem lStory_ok (b : GBook) (hb : b.wf) (hR : rightBookB b = true → ∀ l ∈ b.Routines, WBlock l ∧ szB l ≤ 30000000) : Pure Tryz.prog 14 [.agg (b.enc.map .d)] (.tup [.agg ((storyM b).1.enc.map .d), intD (storyM b).2]) := by
  have hrb := lRight_ok b hb
  obtain ⟨S, hS⟩ : ∃ S, storyM b = S := ⟨_, rfl⟩
  have hSd := hS
  unfold storyM at hSd
  rw [hS]
  cases hr : rightBookB b with
  | false =>
    rw [hr] at hrb hSd
    simp at hSd
    refine Pure.run Tryz.func14 rfl (by simp [Tryz.f14]) ?_; simp [-cB, Tryz.f14]
    intro bs
    refine AOps.pureC rfl (hrb) rfl rfl (by simp) rfl ?_
    simp
    rw [← hSd]; exact ⟨rfl, rfl⟩
  | true =>
    replace hR := hR hr
    have hn : b.Routines.length ≤ 2048 := by
      unfold rightBookB at hr
      simp only [Bool.and_eq_true, decide_eq_true_eq] at hr
      have := (fits_dims hr.1.1).2.2.2.2.2.2.1
      omega
    rw [hr] at hrb hSd
    simp only [Bool.true_eq_false, if_false] at hSd
    have hfE : firstE b (b.Routines.length - 0) 0 = firstE b b.Routines.length 0 := rfl
    obtain ⟨E, hE⟩ : ∃ E, firstE b b.Routines.length 0 = E := ⟨_, rfl⟩
    rw [hE] at hSd hfE
    refine Pure.run Tryz.func14 rfl (by simp [Tryz.f14]) ?_; simp [-cB, Tryz.f14]
    intro bs
    refine AOps.pureC rfl (hrb) rfl rfl (by simp) rfl ?_
    simp
    intro bs2
    refine AWP.weaken (Wk.ownBox 4 15 5301 (e := 3) (k := 1) rfl rfl (by simp [keys])) ?_
    refine AWP.weaken (Wk.ownBox 4 16 5302 (e := 5) (k := 1) rfl rfl (by simp [keys, Heap.upd])) ?_
    simp only [Heap.upd, List.map_cons, List.map_nil, reduceIte, Nat.reduceEqDiff]
    refine AWP.loopS [1, 2, 4, 17, 18] b.Routines.length (fun i => [(18, intD i)]) (fun i => [(5301, .row 3 1 (dd (encI (stM b i).1))), (5302, .row 5 1 (dd (encY (stM b i).2)))]) (fun i => firstE b (b.Routines.length - i) i = E) (by rfl) (by simp [stM, encY, hE, ons_app]) ?_
    intro i hi hH
    obtain ⟨l1, l2⟩ := st_len b (fun l hl => (hR l hl).2) i
    rcases Nat.lt_or_eq_of_le hi with hlt | heq
    · have hco := lCode_ok b hb hR i
      have h64 : inR .i64 ((i : Int) + 1) := by rw [inR_i64]; omega
      have hcl := code_len b (fun l hl => (hR l hl).2) i
      have hst : stM b (i + 1) = ((stM b i).1 ++ [((stM b i).2.length : Int)], (stM b i).2 ++ (codeM b i).1) := rfl
      obtain ⟨c, hc⟩ : ∃ c, codeM b i = c := ⟨_, rfl⟩
      rw [hc] at hco hcl hst
      rw [show b.Routines.length - i = (b.Routines.length - (i + 1)) + 1 by omega, firstE, hc] at hH
      simp [-cB, hlt]
      refine AOps.pureC rfl (hco) rfl rfl (by simp) rfl ?_
      by_cases he : c.2 = 0
      · rw [if_pos he] at hH
        have k1 : V.kills 5301 (List.map V.d b.Tables.enc ++ [V.rv 5301, V.rv 5302]) = List.map V.d b.Tables.enc ++ [V.any, V.rv 5302] := rfl
        have k2 : V.kills 5302 (List.map V.d b.Tables.enc ++ [V.rv 5301, V.rv 5302]) = List.map V.d b.Tables.enc ++ [V.rv 5301, V.any] := rfl
        have k3 : (List.map V.d b.Tables.enc ++ [V.any, V.rv 5302]).take 15 = List.map V.d b.Tables.enc := rfl
        have k4 : (List.map V.d b.Tables.enc ++ [V.any, V.rv 5302]).drop 16 = [V.rv 5302] := rfl
        have k5 : (List.map V.d b.Tables.enc ++ [V.rv 5301, V.any]).take 16 = List.map V.d b.Tables.enc ++ [V.rv 5301] := rfl
        have k6 : (List.map V.d b.Tables.enc ++ [V.rv 5301, V.any]).drop 17 = [] := rfl
        simp [hlt, he, h64, hst, hH, l1, k1, k2, k3, k4, k5, k6]
        exact ⟨by omega, ⟨encY_one _, by omega⟩, by simp [ons_app]⟩
      · rw [if_neg he] at hH
        rw [← hH, if_pos he] at hSd
        simp [hlt, he]
        rw [← hSd]; exact ⟨rfl, rfl⟩
    · have hE0 : E = 0 := by rw [heq, Nat.sub_self, firstE] at hH; exact hH.symm
      rw [if_neg (by rw [hE0]; simp)] at hSd
      obtain ⟨st, hstd⟩ : ∃ st, stM b b.Routines.length = st := ⟨_, rfl⟩
      rw [hstd] at hSd
      rw [heq, hstd] at l1 l2
      have hc65 : (65536 : Int) < (st.2.length : Int) ↔ 65536 < st.2.length := by omega
      by_cases hL : 65536 < st.2.length
      · rw [if_pos hL] at hSd
        simp [heq, hstd, hL, hc65]
        rw [← hSd]; exact ⟨rfl, rfl⟩
      · rw [if_neg hL] at hSd
        simp [heq, hstd, hL, hc65]
        rw [← hSd]
        refine ⟨?_, rfl⟩
        simp [GTables.enc, GStory.enc]
        rfl
end Go.Ab

namespace Go.Ab
open Go.Proofs
theorem opq_bytes {P : Program} {L : Heap} {o : Oper} {ρa : Operand → V} {src dst e : TypeId} {x : Operand} {l : List Int} (hop : o.op = .convert src dst x) (hs : P.underlying src = some (.slice e)) (he : P.underlying e = some (.int .u8)) (hd : P.underlying dst = some .string)
    (hx : ρa x = .d (.sl (encY l))) : OpQ P o ρa L (.d (.v (.string (strOfNums l)))) := by
  intro fo m ρ w hi hr
  have h1 := hr x (by rw [hop]; simp [Op.operands])
  rw [hx] at h1
  have key : ∀ v, RelV w (OO fo m) m v (.d (.sl (encY l))) → (convert src dst v).run P w = .ok (.string (strOfNums l)) w := by
    intro v hv
    cases hv with
    | d _ _ h =>
      cases h with
      | sl a n cap xs k b off f hn hcap hmax ha hk hc hrr =>
        have hnl : n = l.length := by simpa using hn
        by_cases h0 : 0 < n
        · obtain ⟨rfl, -, -⟩ := ha h0
          refine run_convert_bytes_arg w src e hs he b off n cap l hnl.symm (fun i hi => ?_) dst hd
          have hg : (encY l)[i]? = some [.v (.int .u8 (l[i]'(by omega)))] := by simp [encY, List.getElem?_eq_getElem (show i < l.length by omega)]
          have hk1 : 1 = k := hk i _ hg
          subst hk1
          have h3 := hc i 0 hi (by omega)
          have h4 := hrr i 0 _ _ hg rfl
          have h5 : f i 0 = .int .u8 (l[i]'(by omega)) := (RelV.d (m := m) _ _ h4).v_inv
          rw [h5] at h3
          simp only [Nat.mul_one, Nat.add_zero] at h3
          rw [h3]
          simp [List.getD, List.getElem?_eq_getElem (show i < l.length by omega)]
        · have hn0 : n = 0 := by omega
          have hl0 : l = [] := by cases l with | nil => rfl | cons y l => simp at hnl; omega
          subst hn0
          subst hl0
          cases a with
          | none => exact run_convert_bytes_nil w src e hs he 0 cap dst hd
          | some a =>
            rw [run_convert_bytes_string w src dst e _ 0 cap hs he hd, run_bytesToString w a 0 cap [] (by simpa using run_loadCells_list (P := P) w a [] (fun j v h => by simp at h))]
            rfl
  refine ⟨.string (strOfNums l), ?_, .d _ _ (.v _ rfl)⟩
  simp [execOp, hop, key _ h1]
theorem AOps.bytesG {P : Program} {n : Nat} {s : St} {Q : AX → St → Prop} {ops : Array Oper} {o : Oper} {rest : List Oper} {g : Bool} {src dst e : TypeId} {x : Operand} {l : List Int} (hop : o.op = .convert src dst x) (hgd : guardV ops s o = some (some g)) (hd : ∀ d, o.dst = some d → d < n)
    (ht : P.underlying src = some (.slice e) ∧ P.underlying e = some (.int .u8) ∧ P.underlying dst = some .string) (hx : g = true → (s.ev x).un = .d (.sl (encY l))) (hu : g = true → uncs s o.op.operands.toList)
    (k : AOps P n ops rest (s.put o.dst (.gd g (.d (.v (.string (strOfNums l)))))) Q) : AOps P n ops (o :: rest) s Q :=
  AOps.guarded hgd hd (fun hg => ⟨fun z => (s.ev z).un, fun z hz w O m v hr => un_rel hr (uncs_mem (hu hg) z (by simpa using hz)), opq_bytes hop ht.1 ht.2.1 ht.2.2 (hx hg)⟩) k
end Go.Ab

namespace Go.Ab
open Go.Proofs
set_option maxRecDepth 40000
set_option maxHeartbeats 4000000
end Go.Ab

namespace Go.Ab
open Go.Proofs
set_option maxHeartbeats 4000000
set_option maxRecDepth 20000
def wI (n : Int) : Int := IntKind.i64.wrap n
theorem wI_eq (n : Int) : wI n = (n + 9223372036854775808) % 18446744073709551616 - 9223372036854775808 := by
  unfold wI IntKind.wrap
  simp [IntKind.bits, IntKind.signed]
  split <;> omega
theorem wI_l (a b : Int) : wI (wI a + b) = wI (a + b) := by simp only [wI_eq]; omega
theorem wI_r (a b : Int) : wI (a + wI b) = wI (a + b) := by simp only [wI_eq]; omega
theorem opt_addw {P : Program} {L : Heap} {o : Oper} {ρa : Operand → V} {t : TypeId} {xo yo : Operand} {ty : TypeId} {a b : Int} (hop : o.op = .binOp .add t xo yo ty) (hx : ρa xo = .d (.v (.int .i64 a)) ∧ ρa yo = .d (.v (.int .i64 b))) : OpT P o ρa L (.d (.v (.int .i64 (wI (a + b))))) :=
  .of_Q fun fo m ρ w _ hr => by
    have h1 := hr xo (by rw [hop]; simp [Op.operands])
    have h2 := hr yo (by rw [hop]; simp [Op.operands])
    rw [hx.1] at h1
    rw [hx.2] at h2
    have e1 := h1.v_inv
    have e2 := h2.v_inv
    refine ⟨.int .i64 (wI (a + b)), ?_, .d _ _ (.v _ rfl)⟩
    simp [execOp, hop, e1, e2, eqGuard, binOp, Op.intArith, wI]
theorem yop_addw {P : Program} {ops : Array Oper} {o : Oper} {s : St} {t : TypeId} {xo yo : Operand} {ty : TypeId} {a b : Int} (hop : o.op = .binOp .add t xo yo ty) (hg : o.guard = none) (hx : s.ev xo = .d (.v (.int .i64 a)) ∧ s.ev yo = .d (.v (.int .i64 b))) : YOp P ops o s (.d (.v (.int .i64 (wI (a + b))))) :=
  yop_plain hg (opt_addw hop hx)
theorem sizeW_ok (l : List GStmt) (hl : ∀ s ∈ l, s.wf) (hlen : l.length * 104 ≤ 140737488351232) : Pure Tryz.prog 12 [.d (.sl (l.map GStmt.enc))] (.d (.v (.int .i64 (wI (sizeSs l))))) := by
  obtain ⟨n, hn⟩ : ∃ n, SizeOf.sizeOf l < n := ⟨_, Nat.lt_succ_self _⟩
  induction n generalizing l with
  | zero => omega
  | succ n ih =>
    have hsub : ∀ s ∈ l, Pure Tryz.prog 12 [.d (.sl (s.Body.map GStmt.enc))] (.d (.v (.int .i64 (wI (sizeSs s.Body))))) ∧ Pure Tryz.prog 12 [.d (.sl (s.Else.map GStmt.enc))] (.d (.v (.int .i64 (wI (sizeSs s.Else))))) := by
      intro s hs
      have hw := hl s hs
      have h1 := List.sizeOf_lt_of_mem hs
      have h2 := GStmt.lt_body s
      have h3 := GStmt.lt_else s
      exact ⟨ih s.Body (GStmt.wf_Body hw) (GStmt.wl_Body hw) (by omega), ih s.Else (GStmt.wf_Else hw) (GStmt.wl_Else hw) (by omega)⟩
    refine Pure.run Tryz.func12 rfl (by simp [Tryz.f12]) ?_; simp [Tryz.f12]
    refine AWP.loopL [3, 6, 7, 8] l (fun pre => [(3, .d (.v (.int .i64 (wI (sizeSs pre))))), (8, .d (.v (.int .i64 pre.length)))]) (fun _ => []) (fun _ => True) (by rfl) (by omega) (by simp [sizeSs, wI_eq]) ?_ ?_
    · rintro pre s post hsp - hlt hge a4
      obtain ⟨c1, c2⟩ := hsub s (by rw [hsp]; simp)
      have hsn := sizeSs_snoc pre s
      rw [sizeS_eq] at hsn
      have d1 := c1.ok
      have d2 := c2.ok
      clear hsp
      simp [hlt, hge]
      intro bs
      refine AWP.regionT [some (0, 0), some (0, 0), some (0, 0), some (0, 0), some (0, 0), some (0, 0), some (0, 0), some (0, 0), some (0, 0), some (0, 0), some (0, 0)] [16, 20, 21] [.d (.v (.int .i64 (wI (sizeSs s.Body)))), .d (.v (.int .i64 (wI (1 + wI (sizeSs s.Body))))), .d (.v (.int .i64 (wI (sizeSs s.Else)))), .d (.v (.int .i64 (wI (wI (1 + wI (sizeSs s.Body)) + wI (sizeSs s.Else))))), .d (.v (.int .i64 (wI (wI (sizeSs pre) + wI (wI (1 + wI (sizeSs s.Body)) + wI (sizeSs s.Else))))))] Tryz.mixed (by kernel_rfl) ?_
      simp [d1, d2, a4, hsn]
      refine ⟨yop_addw rfl rfl ⟨rfl, rfl⟩, yop_addw rfl rfl ⟨rfl, rfl⟩, yop_addw rfl rfl ⟨rfl, rfl⟩, ?_⟩
      rw [wI_r 1, wI_l (1 + _), wI_r (1 + _), wI_l, wI_r]
    · intro _
      simp
end Go.Ab

namespace Go.Ab
open Go.Proofs
set_option maxHeartbeats 4000000
set_option maxRecDepth 20000
def awT : GTables := { GTables.zero with Texts := [⟨#[]⟩], Flags := 4, Things := [{ GThing.zero with Text := -1 }, { GThing.zero with Text := -1, Parent := 2 }, { GThing.zero with Text := -1, Room := true }], Acts := [⟨false, [[⟨1, [⟨#[120]⟩]⟩]]⟩], Deeds := [⟨0, 2, -1, -1, -1, 0⟩], Params := [0], Locals := [0] }
def awS : GStmt := .mk 13 0 ⟨#[]⟩ [] [] []
def awB : GBook := ⟨awT, [[awS]]⟩
def awB2 : GBook := ⟨{ awT with Deeds := [] }, [[awS]]⟩
def awG : GStory := ⟨awT, [0], [148, 112]⟩
theorem aw_story : storyM awB = (awG, 0) := by kernel_rfl
theorem aw_story2 : storyM awB2 = (GStory.zero, 18) := by kernel_rfl
theorem aw_right2 : rightBookB awB2 = false := by kernel_rfl
theorem awT_wf : awT.wf := by
  unfold awT GTables.wf
  simp [GTables.zero, GThing.wf, GThing.zero, GAct.wf, GSlot.wf, GDeed.wf, inR_i64]
  try decide
theorem awS_wf : awS.wf := by
  unfold awS GStmt.wf
  simp [GExpr.wfs, GStmt.wfs, inR_i64]
  try decide
theorem awB_wf : awB.wf := by
  unfold awB GBook.wf
  refine ⟨awT_wf, by decide, ?_⟩
  intro l hl
  simp at hl
  subst hl
  refine ⟨by decide, ?_⟩
  intro y hy
  simp at hy
  subst hy
  exact awS_wf
theorem awT2_wf : ({ awT with Deeds := [] } : GTables).wf := by
  unfold awT GTables.wf
  simp [GTables.zero, GThing.wf, GThing.zero, GAct.wf, GSlot.wf, GDeed.wf, inR_i64]
  try decide
theorem awB2_wf : awB2.wf := by
  unfold awB2 GBook.wf
  refine ⟨awT2_wf, by decide, ?_⟩
  intro l hl
  simp at hl
  subst hl
  refine ⟨by decide, ?_⟩
  intro y hy
  simp at hy
  subst hy
  exact awS_wf
theorem aw_wblock : WBlock [awS] ∧ szB [awS] ≤ 30000000 := by
  refine ⟨wBlock_ok (t := awT) (locals := 0) (by rw [inR_i64]; omega) ?_ (by decide) (by kernel_rfl), by decide +kernel⟩
  intro y hy
  simp at hy
  subst hy
  exact awS_wf
def awThing (p : Int) (r : Bool) : List D := [.v (.int .i64 0), .v (.int .i64 (-1)), .v (.int .i64 p), .v (.int .i64 0), .v (.bool r), .v (.slice none 0 0), .v (.slice none 0 0), .v (.slice none 0 0), .v (.slice none 0 0)]
def awSlot : List D := [.v (.int .i64 1), .sl [[.v (.string ⟨#[120]⟩)]]]
def awY : List D := [.v (.int .i64 13), .v (.int .i64 0), .v (.string ⟨#[]⟩), .v (.slice none 0 0), .v (.slice none 0 0), .v (.slice none 0 0)]
end Go.Ab

namespace Go.Ab
open Go.Proofs
set_option maxHeartbeats 4000000
set_option maxRecDepth 20000
theorem sameI_ok (a : List Int) (ha : a.length ≤ 100000000000000) : Pure Tryz.prog 10 [.d (.sl (encI a)), .d (.sl (encI a))] (boolD true) := by
  refine Pure.run Tryz.func10 rfl (by simp [Tryz.f10]) ?_; simp [-cB, Tryz.f10]
  refine AWP.loopS [0, 1, 12, 13] a.length (fun i => [(13, intD i)]) (fun _ => []) (fun _ => True) (by rfl) (by simp) ?_
  intro i hi _
  rcases Nat.lt_or_eq_of_le hi with hlt | heq
  · have h64 : inR .i64 ((i : Int) + 1) := by rw [inR_i64]; omega
    have hlt' : (i : Int) < a.length := by omega
    simp [-cB, hlt, hlt']
    refine AWP.regionD [] Tryz.mixed (by kernel_rfl) (by rfl) ?_
    simp [hlt, hlt', h64]
  · simp [heq]
theorem sameT_ok (a : List ByteArray) (ha : a.length ≤ 100000000000000) : Pure Tryz.prog 11 [.d (.sl (encS a)), .d (.sl (encS a))] (boolD true) := by
  refine Pure.run Tryz.func11 rfl (by simp [Tryz.f11]) ?_; simp [-cB, Tryz.f11]
  refine AWP.loopS [0, 1, 12, 13] a.length (fun i => [(13, intD i)]) (fun _ => []) (fun _ => True) (by rfl) (by simp) ?_
  intro i hi _
  rcases Nat.lt_or_eq_of_le hi with hlt | heq
  · have h64 : inR .i64 ((i : Int) + 1) := by rw [inR_i64]; omega
    have hlt' : (i : Int) < a.length := by omega
    simp [-cB, hlt, hlt']
    refine AWP.regionD [] Tryz.mixed (by kernel_rfl) (by rfl) ?_
    simp [hlt, hlt', h64]
  · simp [heq]
def sumS (ls : List (List GStmt)) : Int := wI ((ls.map sizeSs).sum : Nat)
def lightB (b : GBook) : Bool := decide (sumS b.Routines ≤ 3000) && decide (b.Routines.length ≤ 60)
theorem light_ok (b : GBook) (hb : b.wf) : Pure Tryz.prog 4 [.agg (b.enc.map .d)] (boolD (lightB b)) := by
  have hlen := GBook.wl_Routines hb
  refine Pure.run Tryz.func4 rfl (by simp [Tryz.f4]) ?_; simp [-cB, Tryz.f4]
  intro bs
  refine AWP.loopL [1, 3, 7, 8, 9] b.Routines (fun pre => [(3, intD (sumS pre)), (9, intD pre.length)]) (fun _ => []) (fun _ => True) (by rfl) (by omega) (by simp [sumS, wI_eq]) ?_ ?_
  · rintro pre l post hsp - hlt hge a4
    have hw : l.length * 104 ≤ 140737488351232 ∧ ∀ y ∈ l, y.wf := hb.2.2 l (by rw [hsp]; simp)
    have hS := sizeW_ok l hw.2 hw.1
    have hs : sumS (pre ++ [l]) = wI (sumS pre + wI (sizeSs l)) := by unfold sumS; rw [wI_l, wI_r]; simp
    clear hsp
    simp [-cB, hlt, hge]
    refine AOps.quietT rfl (by simp) (OpT.call rfl rfl hS.en hS.on hS.rn hS.calls) ?_
    refine AOps.quietT rfl (by simp) (opt_addw rfl ⟨rfl, rfl⟩) (runC_sound _ _ [] rfl fun bs => ?_)
    simp [-cB, a4, hs]
  · intro _
    have hd : decide ((b.Routines.length : Int) ≤ 60) = decide (b.Routines.length ≤ 60) := by
      rw [Bool.eq_iff_iff, decide_eq_true_eq, decide_eq_true_eq]; omega
    simp [-cB]
    unfold lightB
    rw [hd]
theorem aw_s1 : Pure Tryz.prog 14 [.agg (awB.enc.map .d)] (.tup [.agg (awG.enc.map .d), intD 0]) := by
  have h := lStory_ok awB awB_wf fun _ l hl => by simp [awB] at hl; rw [hl]; exact aw_wblock
  rw [aw_story] at h
  exact h
theorem aw_s2 : Pure Tryz.prog 14 [.agg (awB2.enc.map .d)] (.tup [.agg (GStory.zero.enc.map .d), intD 18]) := by
  have h := lStory_ok awB2 awB2_wf fun _ l hl => by simp [awB2] at hl; rw [hl]; exact aw_wblock
  rw [aw_story2] at h
  exact h
theorem aw_r2 : Pure Tryz.prog 15 [.agg (awB2.enc.map .d)] (.d (.v (.bool false))) := by
  have h := lRight_ok awB2 awB2_wf
  rw [aw_right2] at h
  exact h
theorem awake41_ok : Pure Tryz.prog 6 [] (boolD true) := by
  refine Pure.runA Tryz.func6 rfl (by simp [Tryz.f6]) ?_
  simp only [Tryz.f6]
  refine AWP.seqK ?_
  simp [-cB]
  refine AWP.seqK ?_
  simp [-cB]
  intro bs
  refine AWP.weaken (Wk.pick [1] [21, 20, 19, 17, 15, 14, 12, 11, 7, 1] (by rfl) (by decide) (by rfl)) ?_
  refine AWP.weaken (Wk.freeze 12 (ys := [[.v (.string ⟨#[120]⟩)]]) rfl) ?_
  refine AWP.weaken (Wk.freeze 14 (ys := [awSlot]) rfl) ?_
  refine AWP.weaken (Wk.freeze 15 (ys := [[.sl [awSlot]]]) rfl) ?_
  refine AWP.weaken (Wk.freeze 17 (ys := [[.v (.bool false), .sl [[.sl [awSlot]]]]]) rfl) ?_
  refine AWP.weaken (Wk.freeze 7 (ys := [[.v (.string ⟨#[]⟩)]]) rfl) ?_
  refine AWP.weaken (Wk.freeze 11 (ys := [awThing 0 false, awThing 2 false, awThing 0 true]) rfl) ?_
  refine AWP.weaken (Wk.freeze 19 (ys := [GDeed.enc ⟨0, 2, -1, -1, -1, 0⟩]) rfl) ?_
  refine AWP.weaken (Wk.freeze 20 (ys := [[.v (.int .i64 0)]]) rfl) ?_
  refine AWP.weaken (Wk.freeze 21 (ys := [[.v (.int .i64 0)]]) rfl) ?_
  refine AWP.weaken (s' := ⟨[(1, .bp 1 0)], [(1, .box (bs 9 + 1) 28 (awT.enc.map .d))]⟩) (Wk.deep 8 (by rfl)) ?_
  refine AWP.seqK ?_
  simp [-cB]
  intro bs2
  refine AWP.weaken (Wk.pick [2] [26, 25, 2] (by rfl) (by decide) (by rfl)) ?_
  refine AWP.weaken (Wk.freeze 25 (ys := [awY]) rfl) ?_
  refine AWP.weaken (Wk.freeze 26 (ys := [[.sl [awY]]]) rfl) ?_
  refine AWP.weaken (s' := ⟨[(2, .bp 2 0)], [(2, .box (bs2 2 + 1) 31 (awB.enc.map .d))]⟩) (Wk.deep 4 (by rfl)) ?_
  refine AWP.seqK ?_
  simp [-cB]
  refine AOps.pureC rfl (aw_s1) rfl rfl (by simp) rfl ?_
  simp [-cB]
  intro bs3
  refine AWP.seqK ?_
  simp [-cB]
  refine AWP.weaken (s' := ⟨[(2, .bp 2 0), (3, .bp 3 0), (4, intD 0)], [(3, .box (bs3 0 + 1) 56 (awG.enc.map .d)), (2, .box (bs2 2 + 1) 31 (awB2.enc.map .d))]⟩) ((Wk.pick [2, 3, 4] [3, 2] (by rfl) (by decide) (by rfl)).trans (Wk.deep 4 (by rfl))) ?_
  refine AWP.seqK ?_
  simp [-cB]
  refine AOps.pureC rfl (aw_s2) rfl rfl (by simp) rfl ?_
  simp [-cB]
  intro bs4
  refine AWP.seq (AWP.regionS ?_)
  refine AOps.stop 5 [] (by rfl) ?_
  simp [-cB]
  refine AOps.bytesG (l := [148, 112]) (src := 54) (dst := 9) (e := 5) rfl (by rfl) (by simp) ⟨by kernel_rfl, by kernel_rfl, by kernel_rfl⟩ (fun _ => by rfl) (by simp) ?_
  refine AOps.stop 1 [] (by rfl) ?_
  simp [-cB]
  refine AOps.weaken (Wk.freeze 46 (ys := encY [148, 112]) (by rfl)) ?_
  refine AOps.bytesG (l := [148, 112]) (src := 54) (dst := 9) (e := 5) rfl (by rfl) (by simp) ⟨by kernel_rfl, by kernel_rfl, by kernel_rfl⟩ (fun _ => by rfl) (by simp) ?_
  refine AOps.stop 6 [] (by rfl) ?_
  simp [-cB]
  refine AOps.weaken (Wk.freeze 53 (ys := encI [0]) (by rfl)) ?_
  have hI := sameI_ok [0] (by simp)
  refine AOps.pureG rfl (fun h => hI) rfl (by first | rfl | (simp; done) | (simp; rfl)) (by simp) (by simp) rfl ?_
  simp [-cB]
  refine AOps.pureG rfl (fun h => aw_r2) rfl (by first | rfl | (simp; done) | (simp; rfl)) (by simp) (by simp) rfl ?_
  simp [-cB]
  refine AWP.ofK ?_
  simp [-cB]
end Go.Ab

namespace Go.Ab
open Go.Proofs
set_option maxHeartbeats 4000000
set_option maxRecDepth 20000
theorem right41_ok (b : GBook) (hb : b.wf) : Pure Tryz.prog 5 [.agg (b.enc.map .d)] (boolD (rightBookB b)) := by
  have hF := rightBook_ok b hb
  refine Pure.run Tryz.func5 rfl (by simp [Tryz.f5]) ?_; simp [-cB, Tryz.f5]
  intro bs
  refine AOps.pureC rfl (hF) rfl rfl (by simp) rfl ?_
  simp [-cB]
theorem linkFolds_ok (b : GBook) (hb : b.wf) : Pure Tryz.prog 3 [.agg (b.enc.map .d)] (boolD true) := by
  have hL := light_ok b hb
  have hR := right41_ok b hb
  have hA := awake41_ok
  cases hg : lightB b with
  | false =>
    rw [hg] at hL
    refine Pure.run Tryz.func3 rfl (by simp [Tryz.f3]) ?_; simp [-cB, Tryz.f3]
    intro bs
    refine AOps.pureC rfl (hL) rfl rfl (by simp) rfl ?_
    simp [-cB]
    refine AOps.pureG rfl (g := false) (x := boolD true) (fun h => by cases h) rfl (by first | rfl | (simp; done) | (simp; rfl)) (by simp) (by simp) rfl ?_
    simp [-cB]
    refine AOps.pureC rfl (hA) rfl rfl (by simp) rfl ?_
    simp [-cB]
  | true =>
    rw [hg] at hL
    cases hr : rightBookB b with
    | false =>
      rw [hr] at hR
      refine Pure.run Tryz.func3 rfl (by simp [Tryz.f3]) ?_; simp [-cB, Tryz.f3]
      intro bs
      refine AOps.pureC rfl (hL) rfl rfl (by simp) rfl ?_
      simp [-cB]
      refine AOps.pureG rfl (fun h => hR) rfl (by first | rfl | (simp; done) | (simp; rfl)) (by simp) (by simp) rfl ?_
      simp [-cB]
      refine AOps.pureC rfl (hA) rfl rfl (by simp) rfl ?_
      simp [-cB]
    | true =>
      rw [hr] at hR
      have hF := fBook_ok b hb hr
      have hG := rBook_ok b hb hr
      have hKw := foldK_wf hr hb
      have hK := right41_ok (foldK b) hKw
      rw [foldK_right hr] at hK
      have hwP := GTables.wl_Params hb.1
      have hwL := GTables.wl_Locals hb.1
      have hwT := GTables.wl_Texts hb.1
      have hIP := sameI_ok b.Tables.Params (by omega)
      have hIL := sameI_ok b.Tables.Locals (by omega)
      have hTT := sameT_ok b.Tables.Texts (by omega)
      have hSB : ∀ l ∈ (foldK b).Routines, Pure Tryz.prog 9 [.d (.sl (l.map GStmt.enc)), .d (.sl (l.map GStmt.enc))] (boolD true) := fun l hl => sameB_self _ l (Nat.lt_succ_self _) (hKw.2.2 l hl).1 (hKw.2.2 l hl).2
      have hlen := GBook.wl_Routines hKw
      have hFT : (foldK b).Tables = b.Tables := rfl
      generalize foldK b = K at *
      have hFk := hF.ok
      have hGk := hG.ok
      refine Pure.runA Tryz.func3 rfl (by simp [Tryz.f3]) ?_
      simp only [Tryz.f3]
      refine AWP.seqK ?_
      simp [-cB]
      intro bs
      refine AWP.seqK ?_
      simp [-cB]
      refine AOps.pureC rfl (hL) rfl rfl (by simp) rfl ?_
      simp [-cB]
      refine AOps.pureG rfl (fun h => hR) rfl (by first | rfl | (simp; done) | (simp; rfl)) (by simp) (by simp) rfl ?_
      simp [-cB]
      refine AWP.merge ⟨[(1, .bp 1 0), (3, .bp 3 0), (4, .bp 4 0)], [(3, .box 0 31 (K.enc.map .d)), (4, .box 0 31 (K.enc.map .d)), (1, .box (bs 0 + 1) 31 (b.enc.map .d))]⟩ ?_ ?_
      · refine AWP.regionE Tryz.mixed (OrdR.edge 4 5 (by decide) (OrdR.m0 [some (0, 2), some (0, 2), some (0, 2), some (0, 2), none, none, none, none] [.agg (K.enc.map .d), .agg (K.enc.map .d)] (by kernel_rfl) ?_) (OrdR.perm [0, 1, 2, 3, 5, 4, 6, 7] [0, 1, 2, 3, 5, 4, 6, 7] (by kernel_rfl) (by kernel_rfl) (OrdR.m0 [some (0, 2), some (0, 2), some (0, 2), some (0, 2), none, none, none, none] [.agg (K.enc.map .d), .agg (K.enc.map .d)] (by kernel_rfl) ?_)))
        all_goals
          simp [-cB, hFk, hGk]
          try intro bs1
          try refine (Wk.rlx [3, 4]).trans ?_
          try refine Wk.pick [1, 3, 4] [3, 4, 1] (by rfl) (by decide) ?_
          try simp [St.pick, St.rlx, St.on, V.on, V.ons, Res.rlx]
      · intro bs2
        refine AWP.ofK ?_
        simp [-cB]
        refine AWP.loopS [1, 3, 4, 28, 29] K.Routines.length (fun i => [(29, intD i)]) (fun _ => []) (fun _ => True) (by rfl) (by simp) ?_
        intro i hi _
        rcases Nat.lt_or_eq_of_le hi with hlt | heq
        · have hge : K.Routines[i]? = some K.Routines[i] := List.getElem?_eq_getElem hlt
          have hq := (hSB _ (List.getElem_mem hlt)).ok
          have h64 : inR .i64 ((i : Int) + 1) := by rw [inR_i64]; omega
          have hlt' : (i : Int) < K.Routines.length := by omega
          simp [-cB, hlt, hlt', hge]
          refine AWP.regionD [boolD true] Tryz.mixed (by kernel_rfl) (by rfl) ?_
          simp [-cB, hlt, hlt', hge, hq, h64]
          try exact hq _
        · subst heq
          simp [-cB]
          refine AOps.pureC rfl (hK) rfl rfl (by simp) rfl ?_
          simp [-cB, hFT]
          refine AOps.pureG rfl (fun h => hIP) rfl (by first | rfl | (simp; done) | (simp; rfl)) (by simp) (by simp) rfl ?_
          simp [-cB, hFT]
          refine AOps.pureG rfl (fun h => hIL) rfl (by first | rfl | (simp; done) | (simp; rfl)) (by simp) (by simp) rfl ?_
          simp [-cB, hFT]
          refine AOps.pureG rfl (fun h => hTT) rfl (by first | rfl | (simp; done) | (simp; rfl)) (by simp) (by simp) rfl ?_
          simp [-cB, hFT]
          refine AOps.pureG rfl (fun h => hA) rfl (by first | rfl | (simp; done) | (simp; rfl)) (by simp) (by simp) rfl ?_
          simp [-cB]
end Go.Ab
