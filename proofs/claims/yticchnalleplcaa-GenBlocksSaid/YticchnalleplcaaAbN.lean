/-
  The engine, part N: calls that are lent boxes and leave them as they are.
-/
import Derived.Test.YticchnalleplcaaAbX
import Derived.Test.YticchnalleplcaaAbU
set_option linter.unusedSimpArgs false
set_option linter.unusedVariables false
namespace Go.Ab

attribute [simp] V.fz V.fzs V.scal V.scals unD undd

def isBox : Res → Bool
  | .box (_ + 1) _ _ => true
  | _ => false

section
variable {P : Program} {w w' : World} {fo : Nat → Prop} {m m' : Nat → Option Value} {L : Heap} {n : Nat} {s : St} {a : Act} {Q : AX → St → Prop}

theorem OpT.kept {o : Oper} {c : Call} {ρa : Operand → V} {f : FuncId} {args : List V} {x : V} (L1 L2 : Heap) (hop : o.op = .call c) (hc : callee ρa c = some (f, args)) (he : enters P f = true) (hL : L.Perm (L1 ++ L2))
    (ho : V.ons (keys L1) args = true) (hon : L1.all (fun p => Res.on (keys L1) p.2 && isBox p.2) = true) (hx : x.scal = true)
    (h : ACalls P f args L1 (fun r L' => r = .ret x ∧ L' = L1)) : OpT P o ρa L x := by
  classical
  intro fo m ρ w hi hr
  obtain ⟨xs, h1, h2⟩ := call_enters (P := P) hop hc he hr
  refine .inr ⟨f, xs, h1, ?_⟩
  have hkeys : ∀ x, x ∈ keys L ↔ x ∈ keys L1 ∨ x ∈ keys L2 := by
    intro x
    have : (keys L).Perm (keys (L1 ++ L2)) := hL.map _
    rw [this.mem_iff]
    simp [keys]
  have hnd : (keys L1).Nodup ∧ (keys L2).Nodup ∧ ∀ x, x ∈ keys L1 → x ∉ keys L2 := by
    have hp : (keys L).Perm (keys L1 ++ keys L2) := by simpa [keys] using hL.map (·.1)
    have := hp.nodup_iff.1 hi.nodup
    rw [List.nodup_append] at this
    exact ⟨this.1, this.2.1, fun x h1 h2 => this.2.2 x h1 x h2 rfl⟩
  rw [List.all_eq_true] at hon
  let m1 : Nat → Option Value := fun h => if h ∈ keys L1 then m h else none
  have hm1 : ∀ h x, m1 h = some x → m h = some x ∧ h ∈ keys L1 := by
    intro h x hx
    by_cases hh : h ∈ keys L1
    · simp only [m1, if_pos hh] at hx; exact ⟨hx, hh⟩
    · simp only [m1, if_neg hh] at hx; cases hx
  have hm1' : ∀ h x, h ∈ keys L1 → m h = some x → m1 h = some x := fun h x hh hx => by simp only [m1, if_pos hh]; exact hx
  let fo1 : Nat → Prop := fun b => fo b ∨ ∃ h x, h ∈ keys L2 ∧ m h = some x ∧ blk x = some b
  have hOO : ∀ b, OO fo1 m1 b ↔ OO fo m b := by
    intro b
    constructor
    · rintro (⟨h, x, hx, hb⟩ | h | ⟨h, x, hh, hx, hb⟩)
      · exact .inl ⟨h, x, (hm1 h x hx).1, hb⟩
      · exact .inr h
      · exact .inl ⟨h, x, hx, hb⟩
    · rintro (⟨h, x, hx, hb⟩ | h)
      · rcases (hkeys h).1 (hi.dom h x hx) with hh | hh
        · exact .inl ⟨h, x, hm1' h x hh hx, hb⟩
        · exact .inr (.inr ⟨h, x, hh, hx, hb⟩)
      · exact .inr (.inl h)
  have hi1 : Inv fo1 m1 L1 w := by
    refine ⟨hnd.1, fun h x hx => (hm1 h x hx).2, ?_, ?_, ?_, ?_⟩
    · intro h h' x x' b hx hx' hb hb'
      exact hi.apart h h' x x' b (hm1 h x hx).1 (hm1 h' x' hx').1 hb hb'
    · rintro h x b hx hb (hf | ⟨h', x', hh', hx', hb'⟩)
      · exact hi.others h x b (hm1 h x hx).1 hb hf
      · have := hi.apart h h' x x' b (hm1 h x hx).1 hx' hb hb'
        subst this
        exact hnd.2.2 h (hm1 h x hx).2 hh'
    · rintro b (hf | ⟨h', x', hh', hx', hb'⟩)
      · exact hi.folt b hf
      · exact hi.lt hx' hb'
    · intro h r hr
      obtain ⟨x, hx, hh⟩ := hi.holds h r (hL.mem_iff.2 (List.mem_append_left _ hr))
      have hk : h ∈ keys L1 := List.mem_map.2 ⟨_, hr, rfl⟩
      have h3 := hon _ hr
      simp only [Bool.and_eq_true] at h3
      exact ⟨x, hm1' h x hk hx, (hh.on hm1' h3.1).mono (fun _ _ => rfl) (Keep.refl w _) (fun b _ hb => (hOO b).1 hb) (fun _ _ e => e)⟩
  have hrel : RelVs w (OO fo1 m1) m1 xs args := by
    refine ⟨h2.1, fun j v y hv hy => ?_⟩
    exact ((h2.2 j v y hv hy).on hm1' (ons_mem ho y (List.mem_of_getElem? hy))).mono (Keep.refl w _) (fun b _ hb => (hOO b).1 hb) (fun _ _ e => e)
  refine (h fo1 m1 w xs hi1 hrel).mono ?_
  rintro e w' ⟨m1', r, L', ⟨rfl, rfl⟩, he', hi', st'⟩
  cases e with
  | returned v =>
    simp only [Ends] at he'
    have same : ∀ h, h ∈ keys L' → m1' h = m h := by
      intro h hh
      obtain ⟨⟨h0, r⟩, hr, rfl⟩ := List.mem_map.1 hh
      obtain ⟨z, hz, hzh⟩ := hi'.holds _ _ hr
      obtain ⟨u, hu, huh⟩ := hi1.holds _ _ hr
      have h3 := hon _ hr
      simp only [Bool.and_eq_true] at h3
      cases r with
      | row ty k xs => simp [isBox] at h3
      | box b0 ty cs =>
        cases b0 with
        | zero => simp [isBox] at h3
        | succ b =>
        obtain ⟨bb1, hb1, _, e1, _⟩ := hzh
        obtain ⟨bb2, hb2, _, e2, _⟩ := huh
        obtain rfl : bb1 = b := by omega
        obtain rfl : bb2 = bb1 := by omega
        rw [show m1' h0 = some z from hz, (hm1 _ _ hu).1, e1, e2]
    have hown1 : ∀ b, own m1 b → own m1' b := by
      rintro b ⟨h, x, hx, hb⟩
      exact ⟨h, x, by rw [same h (hm1 h x hx).2]; exact (hm1 h x hx).1, hb⟩
    have hown : ∀ b, own m1 b → own m b := by
      rintro b ⟨h, x, hx, hb⟩
      exact ⟨h, x, (hm1 h x hx).1, hb⟩
    refine ⟨v, rfl, scal_rel he' hx, ⟨hi.nodup, hi.dom, hi.apart, hi.others, fun b hb => Nat.lt_of_lt_of_le (hi.folt b hb) st'.size, ?_⟩, ⟨st'.os, st'.tape, st'.output, st'.size, fun b hb hno => st'.block b hb (fun h => hno (hown b h)), fun b hb h => h⟩⟩
    intro h r hr
    rcases List.mem_append.1 (hL.mem_iff.1 hr) with hr' | hr'
    · obtain ⟨z, hz, hzh⟩ := hi'.holds h r hr'
      have hk : h ∈ keys L' := List.mem_map.2 ⟨_, hr', rfl⟩
      refine ⟨z, by rw [← same h hk]; exact hz, hzh.mono (fun _ _ => rfl) (Keep.refl w' _) (fun b _ hb => ?_) (fun h x hx => by rw [← same h (hi'.dom h x hx)]; exact hx)⟩
      rcases (hOO b).2 hb with h | h
      · exact .inl (hown1 b h)
      · exact .inr h
    · obtain ⟨z, hz, hzh⟩ := hi.holds h r hr
      have hk : h ∈ keys L2 := List.mem_map.2 ⟨_, hr', rfl⟩
      have hkeep : Keep w (OO fo m) w' := ⟨st'.size, fun b hb hno => st'.block b hb (fun h => hno (.inl (hown b h)))⟩
      refine ⟨z, hz, hzh.mono (fun b hb => st'.block b (hi.lt hz hb) (fun ho1 => ?_)) hkeep (fun _ _ h => h) (fun _ _ e => e)⟩
      obtain ⟨h', y', hy', hb'⟩ := ho1
      have := hi.apart h h' z y' b hz (hm1 h' y' hy').1 hb hb'
      subst this
      exact hnd.2.2 h (hm1 h y' hy').2 hk
  | panicked ch => simp only [Ends] at he'
  | outgrown => simp only [Ends] at he'

theorem OKCall.pure {f : FuncId} {args : List V} {x : V} (he : enters P f = true) (ho : V.ons [] args = true) (hx : x.on [] = true) (h : ACalls P f args [] (fun r _ => r = .ret x)) : OKCall P f args L x :=
  fun _ _ _ hop hc => OpT.call hop hc he ho hx h
theorem OKCall.lend {f : FuncId} {args : List V} {x : V} (he : enters P f = true) (ho : V.ons [] (V.fzs L args) = true) (hx : x.scal = true) (h : ACalls P f (V.fzs L args) [] (fun r _ => r = .ret x)) : OKCall P f args L x :=
  fun _ _ _ hop hc => OpT.lend hop hc he ho hx h
theorem OKCall.kept {f : FuncId} {args : List V} {x : V} (L1 L2 : Heap) (he : enters P f = true) (hL : L.Perm (L1 ++ L2)) (ho : V.ons (keys L1) args = true) (hon : L1.all (fun p => Res.on (keys L1) p.2 && isBox p.2) = true) (hx : x.scal = true)
    (h : ACalls P f args L1 (fun r L' => r = .ret x ∧ L' = L1)) : OKCall P f args L x :=
  fun _ _ _ hop hc => OpT.kept L1 L2 hop hc he hL ho hon hx h
theorem OKCall.box (hs : List Nat) {f : FuncId} {args : List V} {x : V} {L1 : Heap} (hL : L.filter (fun p => hs.contains p.1) = L1) (he : enters P f = true) (ho : V.ons (keys L1) args = true) (hon : L1.all (fun p => Res.on (keys L1) p.2 && isBox p.2) = true) (hx : x.scal = true)
    (h : ACalls P f args L1 (fun r L' => r = .ret x ∧ L' = L1)) : OKCall P f args L x :=
  OKCall.kept L1 (L.filter fun p => !hs.contains p.1) he (by subst hL; exact (List.filter_append_perm _ L).symm) ho hon hx h
attribute [simp] isBox
@[simp] theorem dd_snoc (xs : List (List D)) (x : List D) : dd xs ++ [x.map V.d] = dd (xs ++ [x]) := by simp [dd]
end
end Go.Ab
