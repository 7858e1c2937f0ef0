/-
  The structs of this seat's program as structures, by program (gsatool.py).
-/
import Derived.Test.YtfcflgiignjlgaaAbV
import Derived.Test.YtfcflgiignjlgaaAbT
set_option linter.unusedSimpArgs false
set_option linter.unusedVariables false
namespace Go.Ab
structure GWorld where
  Globals : (List Int)
  Parent : (List Int)
  Child : (List Int)
  Next : (List Int)
  Flags : (List Int)
  Props : (List Int)
  Timers : (List Int)
  Seed : Int
  Score : Int
  Turns : Int
  Over : Int
  It : Int
  Go : Int
  deriving DecidableEq
def GWorld.enc (x : GWorld) : List D := [D.sl (encI x.Globals), D.sl (encI x.Parent), D.sl (encI x.Child), D.sl (encI x.Next), D.sl (encI x.Flags), D.sl (encI x.Props), D.sl (encI x.Timers), D.v (.int .u64 x.Seed), D.v (.int .i64 x.Score), D.v (.int .i64 x.Turns), D.v (.int .i64 x.Over), D.v (.int .i64 x.It), D.v (.int .i64 x.Go)]
@[simp] theorem GWorld.enc_length (x : GWorld) : x.enc.length = 13 := rfl
@[simp] theorem GWorld.enc_0 (x : GWorld) : x.enc[0]? = some (D.sl (encI x.Globals)) := rfl
@[simp] theorem GWorld.encg_0 (x : GWorld) (h : 0 < x.enc.length) : x.enc[0] = D.sl (encI x.Globals) := rfl
@[simp] theorem GWorld.enc_1 (x : GWorld) : x.enc[1]? = some (D.sl (encI x.Parent)) := rfl
@[simp] theorem GWorld.encg_1 (x : GWorld) (h : 1 < x.enc.length) : x.enc[1] = D.sl (encI x.Parent) := rfl
@[simp] theorem GWorld.enc_2 (x : GWorld) : x.enc[2]? = some (D.sl (encI x.Child)) := rfl
@[simp] theorem GWorld.encg_2 (x : GWorld) (h : 2 < x.enc.length) : x.enc[2] = D.sl (encI x.Child) := rfl
@[simp] theorem GWorld.enc_3 (x : GWorld) : x.enc[3]? = some (D.sl (encI x.Next)) := rfl
@[simp] theorem GWorld.encg_3 (x : GWorld) (h : 3 < x.enc.length) : x.enc[3] = D.sl (encI x.Next) := rfl
@[simp] theorem GWorld.enc_4 (x : GWorld) : x.enc[4]? = some (D.sl (encI x.Flags)) := rfl
@[simp] theorem GWorld.encg_4 (x : GWorld) (h : 4 < x.enc.length) : x.enc[4] = D.sl (encI x.Flags) := rfl
@[simp] theorem GWorld.enc_5 (x : GWorld) : x.enc[5]? = some (D.sl (encI x.Props)) := rfl
@[simp] theorem GWorld.encg_5 (x : GWorld) (h : 5 < x.enc.length) : x.enc[5] = D.sl (encI x.Props) := rfl
@[simp] theorem GWorld.enc_6 (x : GWorld) : x.enc[6]? = some (D.sl (encI x.Timers)) := rfl
@[simp] theorem GWorld.encg_6 (x : GWorld) (h : 6 < x.enc.length) : x.enc[6] = D.sl (encI x.Timers) := rfl
@[simp] theorem GWorld.enc_7 (x : GWorld) : x.enc[7]? = some (D.v (.int .u64 x.Seed)) := rfl
@[simp] theorem GWorld.encg_7 (x : GWorld) (h : 7 < x.enc.length) : x.enc[7] = D.v (.int .u64 x.Seed) := rfl
@[simp] theorem GWorld.enc_8 (x : GWorld) : x.enc[8]? = some (D.v (.int .i64 x.Score)) := rfl
@[simp] theorem GWorld.encg_8 (x : GWorld) (h : 8 < x.enc.length) : x.enc[8] = D.v (.int .i64 x.Score) := rfl
@[simp] theorem GWorld.enc_9 (x : GWorld) : x.enc[9]? = some (D.v (.int .i64 x.Turns)) := rfl
@[simp] theorem GWorld.encg_9 (x : GWorld) (h : 9 < x.enc.length) : x.enc[9] = D.v (.int .i64 x.Turns) := rfl
@[simp] theorem GWorld.enc_10 (x : GWorld) : x.enc[10]? = some (D.v (.int .i64 x.Over)) := rfl
@[simp] theorem GWorld.encg_10 (x : GWorld) (h : 10 < x.enc.length) : x.enc[10] = D.v (.int .i64 x.Over) := rfl
@[simp] theorem GWorld.enc_11 (x : GWorld) : x.enc[11]? = some (D.v (.int .i64 x.It)) := rfl
@[simp] theorem GWorld.encg_11 (x : GWorld) (h : 11 < x.enc.length) : x.enc[11] = D.v (.int .i64 x.It) := rfl
@[simp] theorem GWorld.enc_12 (x : GWorld) : x.enc[12]? = some (D.v (.int .i64 x.Go)) := rfl
@[simp] theorem GWorld.encg_12 (x : GWorld) (h : 12 < x.enc.length) : x.enc[12] = D.v (.int .i64 x.Go) := rfl
@[simp] theorem GWorld.fzV (L : Heap) (x : GWorld) : V.fzs L (x.enc.map V.d) = x.enc.map V.d := by simp [GWorld.enc, V.fzs, V.fz]
def GWorld.zero : GWorld := ⟨[], [], [], [], [], [], [], 0, 0, 0, 0, 0, 0⟩
theorem GWorld.zero_enc : GWorld.zero.enc = [D.sl [], D.sl [], D.sl [], D.sl [], D.sl [], D.sl [], D.sl [], D.v (.int .u64 0), D.v (.int .i64 0), D.v (.int .i64 0), D.v (.int .i64 0), D.v (.int .i64 0), D.v (.int .i64 0)] := rfl
@[simp] theorem GWorld.getZ (o : Option GWorld) : (o.map GWorld.enc).getD [D.sl [], D.sl [], D.sl [], D.sl [], D.sl [], D.sl [], D.sl [], D.v (.int .u64 0), D.v (.int .i64 0), D.v (.int .i64 0), D.v (.int .i64 0), D.v (.int .i64 0), D.v (.int .i64 0)] = (o.getD GWorld.zero).enc := by cases o <;> rfl
@[simp] theorem GWorld.getV (o : Option GWorld) : (o.map (fun x => x.enc.map V.d)).getD [V.d (D.sl []), V.d (D.sl []), V.d (D.sl []), V.d (D.sl []), V.d (D.sl []), V.d (D.sl []), V.d (D.sl []), V.d (D.v (.int .u64 0)), V.d (D.v (.int .i64 0)), V.d (D.v (.int .i64 0)), V.d (D.v (.int .i64 0)), V.d (D.v (.int .i64 0)), V.d (D.v (.int .i64 0))] = ((o.getD GWorld.zero).enc).map V.d := by cases o <;> rfl
theorem GWorld.cellAt (l : List GWorld) (i j : Nat) (z : D) (h : GWorld.zero.enc[j]? = some z) : cellAt (dd (l.map GWorld.enc)) i j [V.d z] = V.d (((l[i]?.getD GWorld.zero).enc[j]?).getD default) := by
  unfold Go.Ab.cellAt
  rw [dd_get, List.getElem?_map]
  cases hl : l[i]? with
  | none => simp [h]
  | some a =>
    have hj := (List.getElem?_eq_some_iff.1 h).1
    have hj' : j < a.enc.length := by rw [GWorld.enc_length] at hj ⊢; exact hj
    simp only [Option.map_some, List.getElem?_map, List.getElem?_eq_getElem hj', Option.getD_some]
@[simp] theorem GWorld.cellAt_0 (l : List GWorld) (i : Nat) : Go.Ab.cellAt (dd (l.map GWorld.enc)) i 0 [V.d (D.sl [])] = V.d (D.sl (encI (l[i]?.getD GWorld.zero).Globals)) := GWorld.cellAt l i 0 _ rfl
@[simp] theorem GWorld.cellAt_1 (l : List GWorld) (i : Nat) : Go.Ab.cellAt (dd (l.map GWorld.enc)) i 1 [V.d (D.sl [])] = V.d (D.sl (encI (l[i]?.getD GWorld.zero).Parent)) := GWorld.cellAt l i 1 _ rfl
@[simp] theorem GWorld.cellAt_2 (l : List GWorld) (i : Nat) : Go.Ab.cellAt (dd (l.map GWorld.enc)) i 2 [V.d (D.sl [])] = V.d (D.sl (encI (l[i]?.getD GWorld.zero).Child)) := GWorld.cellAt l i 2 _ rfl
@[simp] theorem GWorld.cellAt_3 (l : List GWorld) (i : Nat) : Go.Ab.cellAt (dd (l.map GWorld.enc)) i 3 [V.d (D.sl [])] = V.d (D.sl (encI (l[i]?.getD GWorld.zero).Next)) := GWorld.cellAt l i 3 _ rfl
@[simp] theorem GWorld.cellAt_4 (l : List GWorld) (i : Nat) : Go.Ab.cellAt (dd (l.map GWorld.enc)) i 4 [V.d (D.sl [])] = V.d (D.sl (encI (l[i]?.getD GWorld.zero).Flags)) := GWorld.cellAt l i 4 _ rfl
@[simp] theorem GWorld.cellAt_5 (l : List GWorld) (i : Nat) : Go.Ab.cellAt (dd (l.map GWorld.enc)) i 5 [V.d (D.sl [])] = V.d (D.sl (encI (l[i]?.getD GWorld.zero).Props)) := GWorld.cellAt l i 5 _ rfl
@[simp] theorem GWorld.cellAt_6 (l : List GWorld) (i : Nat) : Go.Ab.cellAt (dd (l.map GWorld.enc)) i 6 [V.d (D.sl [])] = V.d (D.sl (encI (l[i]?.getD GWorld.zero).Timers)) := GWorld.cellAt l i 6 _ rfl
@[simp] theorem GWorld.cellAt_7 (l : List GWorld) (i : Nat) : Go.Ab.cellAt (dd (l.map GWorld.enc)) i 7 [V.d (D.v (.int .u64 0))] = V.d (D.v (.int .u64 (l[i]?.getD GWorld.zero).Seed)) := GWorld.cellAt l i 7 _ rfl
@[simp] theorem GWorld.cellAt_8 (l : List GWorld) (i : Nat) : Go.Ab.cellAt (dd (l.map GWorld.enc)) i 8 [V.d (D.v (.int .i64 0))] = V.d (D.v (.int .i64 (l[i]?.getD GWorld.zero).Score)) := GWorld.cellAt l i 8 _ rfl
@[simp] theorem GWorld.cellAt_9 (l : List GWorld) (i : Nat) : Go.Ab.cellAt (dd (l.map GWorld.enc)) i 9 [V.d (D.v (.int .i64 0))] = V.d (D.v (.int .i64 (l[i]?.getD GWorld.zero).Turns)) := GWorld.cellAt l i 9 _ rfl
@[simp] theorem GWorld.cellAt_10 (l : List GWorld) (i : Nat) : Go.Ab.cellAt (dd (l.map GWorld.enc)) i 10 [V.d (D.v (.int .i64 0))] = V.d (D.v (.int .i64 (l[i]?.getD GWorld.zero).Over)) := GWorld.cellAt l i 10 _ rfl
@[simp] theorem GWorld.cellAt_11 (l : List GWorld) (i : Nat) : Go.Ab.cellAt (dd (l.map GWorld.enc)) i 11 [V.d (D.v (.int .i64 0))] = V.d (D.v (.int .i64 (l[i]?.getD GWorld.zero).It)) := GWorld.cellAt l i 11 _ rfl
@[simp] theorem GWorld.cellAt_12 (l : List GWorld) (i : Nat) : Go.Ab.cellAt (dd (l.map GWorld.enc)) i 12 [V.d (D.v (.int .i64 0))] = V.d (D.v (.int .i64 (l[i]?.getD GWorld.zero).Go)) := GWorld.cellAt l i 12 _ rfl
@[simp] theorem GWorld.aggAt (l : List GWorld) (i : Nat) : Go.Ab.aggAt (dd (l.map GWorld.enc)) i 0 13 [V.d (D.sl []), V.d (D.sl []), V.d (D.sl []), V.d (D.sl []), V.d (D.sl []), V.d (D.sl []), V.d (D.sl []), V.d (D.v (.int .u64 0)), V.d (D.v (.int .i64 0)), V.d (D.v (.int .i64 0)), V.d (D.v (.int .i64 0)), V.d (D.v (.int .i64 0)), V.d (D.v (.int .i64 0))] = (l[i]?.getD GWorld.zero).enc.map V.d := by
  unfold Go.Ab.aggAt
  rw [dd_get, List.getElem?_map]
  cases l[i]? <;> rfl
@[simp] theorem GWorld.dropAll (x : GWorld) : List.drop 13 x.enc = [] := rfl
@[simp] theorem GWorld.dropAllv (x : GWorld) : List.drop 13 (x.enc.map V.d) = [] := rfl
@[simp] theorem GWorld.enc_all (x : GWorld) : x.enc.take 13 = x.enc := rfl
@[simp] theorem GWorld.enc_allv (x : GWorld) : List.take 13 (x.enc.map V.d) = x.enc.map V.d := rfl
def GWorld.wf (x : GWorld) : Prop := x.Globals.length * 8 ≤ 140737488351232 ∧ (∀ y ∈ x.Globals, inR .i64 y) ∧ x.Parent.length * 8 ≤ 140737488351232 ∧ (∀ y ∈ x.Parent, inR .i64 y) ∧ x.Child.length * 8 ≤ 140737488351232 ∧ (∀ y ∈ x.Child, inR .i64 y) ∧ x.Next.length * 8 ≤ 140737488351232 ∧ (∀ y ∈ x.Next, inR .i64 y) ∧ x.Flags.length * 8 ≤ 140737488351232 ∧ (∀ y ∈ x.Flags, inR .i64 y) ∧ x.Props.length * 8 ≤ 140737488351232 ∧ (∀ y ∈ x.Props, inR .i64 y) ∧ x.Timers.length * 8 ≤ 140737488351232 ∧ (∀ y ∈ x.Timers, inR .i64 y) ∧ inR .u64 x.Seed ∧ inR .i64 x.Score ∧ inR .i64 x.Turns ∧ inR .i64 x.Over ∧ inR .i64 x.It ∧ inR .i64 x.Go
theorem tyK_40 : tyK Go.Proofs.Try.prog 40 = .st [29, 29, 29, 29, 29, 29, 29, 38, 3, 3, 3, 3, 3] := by kernel_rfl
theorem tyK_29 : tyK Go.Proofs.Try.prog 29 = .sl 3 8 := by kernel_rfl
theorem tyK_3 : tyK Go.Proofs.Try.prog 3 = .int .i64 := by kernel_rfl
theorem tyK_38 : tyK Go.Proofs.Try.prog 38 = .int .u64 := by kernel_rfl
theorem GWorld.of {ys : List D} (h : HasT Go.Proofs.Try.prog 40 ys) : ∃ x : GWorld, ys = x.enc ∧ x.wf := by
  have h' := HasT.st_inv h tyK_40
  obtain ⟨a0_, r0, hr0, t0, h0⟩ := h'
  obtain ⟨a1_, r1, hr1, t1, h1⟩ := h0
  obtain ⟨a2_, r2, hr2, t2, h2⟩ := h1
  obtain ⟨a3_, r3, hr3, t3, h3⟩ := h2
  obtain ⟨a4_, r4, hr4, t4, h4⟩ := h3
  obtain ⟨a5_, r5, hr5, t5, h5⟩ := h4
  obtain ⟨a6_, r6, hr6, t6, h6⟩ := h5
  obtain ⟨a7_, r7, hr7, t7, h7⟩ := h6
  obtain ⟨a8_, r8, hr8, t8, h8⟩ := h7
  obtain ⟨a9_, r9, hr9, t9, h9⟩ := h8
  obtain ⟨a10_, r10, hr10, t10, h10⟩ := h9
  obtain ⟨a11_, r11, hr11, t11, h11⟩ := h10
  obtain ⟨a12_, r12, hr12, t12, h12⟩ := h11
  simp only [HasTs] at h12
  subst h12
  subst hr12
  subst hr11
  subst hr10
  subst hr9
  subst hr8
  subst hr7
  subst hr6
  subst hr5
  subst hr4
  subst hr3
  subst hr2
  subst hr1
  subst hr0
  obtain ⟨a0_0, rfl, a0_h, a0_l, a0_w⟩ := HasT.sl_inv t0 tyK_29
  obtain ⟨a0_', rfl, a0_a⟩ := map_of (f := (fun y => [D.v (.int .i64 y)])) (p := fun (y : Int) => inR .i64 y) (fun a0_e hx => by
    have a0_q := a0_h a0_e hx
    obtain ⟨a0_e', rfl, a0_ew⟩ := HasT.int_inv a0_q tyK_3
    exact ⟨a0_e', rfl, a0_ew⟩)
  obtain ⟨a1_0, rfl, a1_h, a1_l, a1_w⟩ := HasT.sl_inv t1 tyK_29
  obtain ⟨a1_', rfl, a1_a⟩ := map_of (f := (fun y => [D.v (.int .i64 y)])) (p := fun (y : Int) => inR .i64 y) (fun a1_e hx => by
    have a1_q := a1_h a1_e hx
    obtain ⟨a1_e', rfl, a1_ew⟩ := HasT.int_inv a1_q tyK_3
    exact ⟨a1_e', rfl, a1_ew⟩)
  obtain ⟨a2_0, rfl, a2_h, a2_l, a2_w⟩ := HasT.sl_inv t2 tyK_29
  obtain ⟨a2_', rfl, a2_a⟩ := map_of (f := (fun y => [D.v (.int .i64 y)])) (p := fun (y : Int) => inR .i64 y) (fun a2_e hx => by
    have a2_q := a2_h a2_e hx
    obtain ⟨a2_e', rfl, a2_ew⟩ := HasT.int_inv a2_q tyK_3
    exact ⟨a2_e', rfl, a2_ew⟩)
  obtain ⟨a3_0, rfl, a3_h, a3_l, a3_w⟩ := HasT.sl_inv t3 tyK_29
  obtain ⟨a3_', rfl, a3_a⟩ := map_of (f := (fun y => [D.v (.int .i64 y)])) (p := fun (y : Int) => inR .i64 y) (fun a3_e hx => by
    have a3_q := a3_h a3_e hx
    obtain ⟨a3_e', rfl, a3_ew⟩ := HasT.int_inv a3_q tyK_3
    exact ⟨a3_e', rfl, a3_ew⟩)
  obtain ⟨a4_0, rfl, a4_h, a4_l, a4_w⟩ := HasT.sl_inv t4 tyK_29
  obtain ⟨a4_', rfl, a4_a⟩ := map_of (f := (fun y => [D.v (.int .i64 y)])) (p := fun (y : Int) => inR .i64 y) (fun a4_e hx => by
    have a4_q := a4_h a4_e hx
    obtain ⟨a4_e', rfl, a4_ew⟩ := HasT.int_inv a4_q tyK_3
    exact ⟨a4_e', rfl, a4_ew⟩)
  obtain ⟨a5_0, rfl, a5_h, a5_l, a5_w⟩ := HasT.sl_inv t5 tyK_29
  obtain ⟨a5_', rfl, a5_a⟩ := map_of (f := (fun y => [D.v (.int .i64 y)])) (p := fun (y : Int) => inR .i64 y) (fun a5_e hx => by
    have a5_q := a5_h a5_e hx
    obtain ⟨a5_e', rfl, a5_ew⟩ := HasT.int_inv a5_q tyK_3
    exact ⟨a5_e', rfl, a5_ew⟩)
  obtain ⟨a6_0, rfl, a6_h, a6_l, a6_w⟩ := HasT.sl_inv t6 tyK_29
  obtain ⟨a6_', rfl, a6_a⟩ := map_of (f := (fun y => [D.v (.int .i64 y)])) (p := fun (y : Int) => inR .i64 y) (fun a6_e hx => by
    have a6_q := a6_h a6_e hx
    obtain ⟨a6_e', rfl, a6_ew⟩ := HasT.int_inv a6_q tyK_3
    exact ⟨a6_e', rfl, a6_ew⟩)
  obtain ⟨a7_', rfl, a7_w⟩ := HasT.int_inv t7 tyK_38
  obtain ⟨a8_', rfl, a8_w⟩ := HasT.int_inv t8 tyK_3
  obtain ⟨a9_', rfl, a9_w⟩ := HasT.int_inv t9 tyK_3
  obtain ⟨a10_', rfl, a10_w⟩ := HasT.int_inv t10 tyK_3
  obtain ⟨a11_', rfl, a11_w⟩ := HasT.int_inv t11 tyK_3
  obtain ⟨a12_', rfl, a12_w⟩ := HasT.int_inv t12 tyK_3
  exact ⟨⟨a0_', a1_', a2_', a3_', a4_', a5_', a6_', a7_', a8_', a9_', a10_', a11_', a12_'⟩, rfl, ⟨(by simpa using a0_w), a0_a, (by simpa using a1_w), a1_a, (by simpa using a2_w), a2_a, (by simpa using a3_w), a3_a, (by simpa using a4_w), a4_a, (by simpa using a5_w), a5_a, (by simpa using a6_w), a6_a, a7_w, a8_w, a9_w, a10_w, a11_w, a12_w⟩⟩
structure GCmd where
  Verb : Int
  Noun : Int
  Second : Int
  Number : Int
  Dir : Int
  deriving DecidableEq
def GCmd.enc (x : GCmd) : List D := [D.v (.int .i64 x.Verb), D.v (.int .i64 x.Noun), D.v (.int .i64 x.Second), D.v (.int .i64 x.Number), D.v (.int .i64 x.Dir)]
@[simp] theorem GCmd.enc_length (x : GCmd) : x.enc.length = 5 := rfl
@[simp] theorem GCmd.enc_0 (x : GCmd) : x.enc[0]? = some (D.v (.int .i64 x.Verb)) := rfl
@[simp] theorem GCmd.encg_0 (x : GCmd) (h : 0 < x.enc.length) : x.enc[0] = D.v (.int .i64 x.Verb) := rfl
@[simp] theorem GCmd.enc_1 (x : GCmd) : x.enc[1]? = some (D.v (.int .i64 x.Noun)) := rfl
@[simp] theorem GCmd.encg_1 (x : GCmd) (h : 1 < x.enc.length) : x.enc[1] = D.v (.int .i64 x.Noun) := rfl
@[simp] theorem GCmd.enc_2 (x : GCmd) : x.enc[2]? = some (D.v (.int .i64 x.Second)) := rfl
@[simp] theorem GCmd.encg_2 (x : GCmd) (h : 2 < x.enc.length) : x.enc[2] = D.v (.int .i64 x.Second) := rfl
@[simp] theorem GCmd.enc_3 (x : GCmd) : x.enc[3]? = some (D.v (.int .i64 x.Number)) := rfl
@[simp] theorem GCmd.encg_3 (x : GCmd) (h : 3 < x.enc.length) : x.enc[3] = D.v (.int .i64 x.Number) := rfl
@[simp] theorem GCmd.enc_4 (x : GCmd) : x.enc[4]? = some (D.v (.int .i64 x.Dir)) := rfl
@[simp] theorem GCmd.encg_4 (x : GCmd) (h : 4 < x.enc.length) : x.enc[4] = D.v (.int .i64 x.Dir) := rfl
@[simp] theorem GCmd.fzV (L : Heap) (x : GCmd) : V.fzs L (x.enc.map V.d) = x.enc.map V.d := by simp [GCmd.enc, V.fzs, V.fz]
@[simp] theorem GCmd.eqV (x y : GCmd) : eqVs (x.enc.map V.d) (y.enc.map V.d) = some (decide (x = y)) := by
  rcases x with ⟨a_0, a_1, a_2, a_3, a_4⟩
  rcases y with ⟨b_0, b_1, b_2, b_3, b_4⟩
  simp only [GCmd.enc, List.map, eqVs, vals, eqVals, eqV1, if_true, Option.some.injEq, bytes_beq]
  rw [Bool.eq_iff_iff]
  simp [and_assoc]
@[simp] theorem GCmd.fitV (x : GCmd) : fitVs [.i .i64, .i .i64, .i .i64, .i .i64, .i .i64] (x.enc.map V.d) = true := by
  simp [GCmd.enc, fitVs, vals, fits, fit1]
def GCmd.zero : GCmd := ⟨0, 0, 0, 0, 0⟩
theorem GCmd.zero_enc : GCmd.zero.enc = [D.v (.int .i64 0), D.v (.int .i64 0), D.v (.int .i64 0), D.v (.int .i64 0), D.v (.int .i64 0)] := rfl
@[simp] theorem GCmd.getZ (o : Option GCmd) : (o.map GCmd.enc).getD [D.v (.int .i64 0), D.v (.int .i64 0), D.v (.int .i64 0), D.v (.int .i64 0), D.v (.int .i64 0)] = (o.getD GCmd.zero).enc := by cases o <;> rfl
@[simp] theorem GCmd.getV (o : Option GCmd) : (o.map (fun x => x.enc.map V.d)).getD [V.d (D.v (.int .i64 0)), V.d (D.v (.int .i64 0)), V.d (D.v (.int .i64 0)), V.d (D.v (.int .i64 0)), V.d (D.v (.int .i64 0))] = ((o.getD GCmd.zero).enc).map V.d := by cases o <;> rfl
theorem GCmd.cellAt (l : List GCmd) (i j : Nat) (z : D) (h : GCmd.zero.enc[j]? = some z) : cellAt (dd (l.map GCmd.enc)) i j [V.d z] = V.d (((l[i]?.getD GCmd.zero).enc[j]?).getD default) := by
  unfold Go.Ab.cellAt
  rw [dd_get, List.getElem?_map]
  cases hl : l[i]? with
  | none => simp [h]
  | some a =>
    have hj := (List.getElem?_eq_some_iff.1 h).1
    have hj' : j < a.enc.length := by rw [GCmd.enc_length] at hj ⊢; exact hj
    simp only [Option.map_some, List.getElem?_map, List.getElem?_eq_getElem hj', Option.getD_some]
@[simp] theorem GCmd.cellAt_0 (l : List GCmd) (i : Nat) : Go.Ab.cellAt (dd (l.map GCmd.enc)) i 0 [V.d (D.v (.int .i64 0))] = V.d (D.v (.int .i64 (l[i]?.getD GCmd.zero).Verb)) := GCmd.cellAt l i 0 _ rfl
@[simp] theorem GCmd.cellAt_1 (l : List GCmd) (i : Nat) : Go.Ab.cellAt (dd (l.map GCmd.enc)) i 1 [V.d (D.v (.int .i64 0))] = V.d (D.v (.int .i64 (l[i]?.getD GCmd.zero).Noun)) := GCmd.cellAt l i 1 _ rfl
@[simp] theorem GCmd.cellAt_2 (l : List GCmd) (i : Nat) : Go.Ab.cellAt (dd (l.map GCmd.enc)) i 2 [V.d (D.v (.int .i64 0))] = V.d (D.v (.int .i64 (l[i]?.getD GCmd.zero).Second)) := GCmd.cellAt l i 2 _ rfl
@[simp] theorem GCmd.cellAt_3 (l : List GCmd) (i : Nat) : Go.Ab.cellAt (dd (l.map GCmd.enc)) i 3 [V.d (D.v (.int .i64 0))] = V.d (D.v (.int .i64 (l[i]?.getD GCmd.zero).Number)) := GCmd.cellAt l i 3 _ rfl
@[simp] theorem GCmd.cellAt_4 (l : List GCmd) (i : Nat) : Go.Ab.cellAt (dd (l.map GCmd.enc)) i 4 [V.d (D.v (.int .i64 0))] = V.d (D.v (.int .i64 (l[i]?.getD GCmd.zero).Dir)) := GCmd.cellAt l i 4 _ rfl
@[simp] theorem GCmd.aggAt (l : List GCmd) (i : Nat) : Go.Ab.aggAt (dd (l.map GCmd.enc)) i 0 5 [V.d (D.v (.int .i64 0)), V.d (D.v (.int .i64 0)), V.d (D.v (.int .i64 0)), V.d (D.v (.int .i64 0)), V.d (D.v (.int .i64 0))] = (l[i]?.getD GCmd.zero).enc.map V.d := by
  unfold Go.Ab.aggAt
  rw [dd_get, List.getElem?_map]
  cases l[i]? <;> rfl
@[simp] theorem GCmd.dropAll (x : GCmd) : List.drop 5 x.enc = [] := rfl
@[simp] theorem GCmd.dropAllv (x : GCmd) : List.drop 5 (x.enc.map V.d) = [] := rfl
@[simp] theorem GCmd.enc_all (x : GCmd) : x.enc.take 5 = x.enc := rfl
@[simp] theorem GCmd.enc_allv (x : GCmd) : List.take 5 (x.enc.map V.d) = x.enc.map V.d := rfl
def GCmd.wf (x : GCmd) : Prop := inR .i64 x.Verb ∧ inR .i64 x.Noun ∧ inR .i64 x.Second ∧ inR .i64 x.Number ∧ inR .i64 x.Dir
theorem tyK_35 : tyK Go.Proofs.Try.prog 35 = .st [3, 3, 3, 3, 3] := by kernel_rfl
theorem GCmd.of {ys : List D} (h : HasT Go.Proofs.Try.prog 35 ys) : ∃ x : GCmd, ys = x.enc ∧ x.wf := by
  have h' := HasT.st_inv h tyK_35
  obtain ⟨a0_, r0, hr0, t0, h0⟩ := h'
  obtain ⟨a1_, r1, hr1, t1, h1⟩ := h0
  obtain ⟨a2_, r2, hr2, t2, h2⟩ := h1
  obtain ⟨a3_, r3, hr3, t3, h3⟩ := h2
  obtain ⟨a4_, r4, hr4, t4, h4⟩ := h3
  simp only [HasTs] at h4
  subst h4
  subst hr4
  subst hr3
  subst hr2
  subst hr1
  subst hr0
  obtain ⟨a0_', rfl, a0_w⟩ := HasT.int_inv t0 tyK_3
  obtain ⟨a1_', rfl, a1_w⟩ := HasT.int_inv t1 tyK_3
  obtain ⟨a2_', rfl, a2_w⟩ := HasT.int_inv t2 tyK_3
  obtain ⟨a3_', rfl, a3_w⟩ := HasT.int_inv t3 tyK_3
  obtain ⟨a4_', rfl, a4_w⟩ := HasT.int_inv t4 tyK_3
  exact ⟨⟨a0_', a1_', a2_', a3_', a4_'⟩, rfl, ⟨a0_w, a1_w, a2_w, a3_w, a4_w⟩⟩
structure GEdge where
  From : Int
  To : Int
  Cmd : GCmd
  deriving DecidableEq
def GEdge.enc (x : GEdge) : List D := [D.v (.int .i64 x.From), D.v (.int .i64 x.To), D.v (.int .i64 x.Cmd.Verb), D.v (.int .i64 x.Cmd.Noun), D.v (.int .i64 x.Cmd.Second), D.v (.int .i64 x.Cmd.Number), D.v (.int .i64 x.Cmd.Dir)]
@[simp] theorem GEdge.enc_length (x : GEdge) : x.enc.length = 7 := rfl
@[simp] theorem GEdge.enc_0 (x : GEdge) : x.enc[0]? = some (D.v (.int .i64 x.From)) := rfl
@[simp] theorem GEdge.encg_0 (x : GEdge) (h : 0 < x.enc.length) : x.enc[0] = D.v (.int .i64 x.From) := rfl
@[simp] theorem GEdge.enc_1 (x : GEdge) : x.enc[1]? = some (D.v (.int .i64 x.To)) := rfl
@[simp] theorem GEdge.encg_1 (x : GEdge) (h : 1 < x.enc.length) : x.enc[1] = D.v (.int .i64 x.To) := rfl
@[simp] theorem GEdge.enc_2 (x : GEdge) : x.enc[2]? = some (D.v (.int .i64 x.Cmd.Verb)) := rfl
@[simp] theorem GEdge.encg_2 (x : GEdge) (h : 2 < x.enc.length) : x.enc[2] = D.v (.int .i64 x.Cmd.Verb) := rfl
@[simp] theorem GEdge.enc_3 (x : GEdge) : x.enc[3]? = some (D.v (.int .i64 x.Cmd.Noun)) := rfl
@[simp] theorem GEdge.encg_3 (x : GEdge) (h : 3 < x.enc.length) : x.enc[3] = D.v (.int .i64 x.Cmd.Noun) := rfl
@[simp] theorem GEdge.enc_4 (x : GEdge) : x.enc[4]? = some (D.v (.int .i64 x.Cmd.Second)) := rfl
@[simp] theorem GEdge.encg_4 (x : GEdge) (h : 4 < x.enc.length) : x.enc[4] = D.v (.int .i64 x.Cmd.Second) := rfl
@[simp] theorem GEdge.enc_5 (x : GEdge) : x.enc[5]? = some (D.v (.int .i64 x.Cmd.Number)) := rfl
@[simp] theorem GEdge.encg_5 (x : GEdge) (h : 5 < x.enc.length) : x.enc[5] = D.v (.int .i64 x.Cmd.Number) := rfl
@[simp] theorem GEdge.enc_6 (x : GEdge) : x.enc[6]? = some (D.v (.int .i64 x.Cmd.Dir)) := rfl
@[simp] theorem GEdge.encg_6 (x : GEdge) (h : 6 < x.enc.length) : x.enc[6] = D.v (.int .i64 x.Cmd.Dir) := rfl
@[simp] theorem GEdge.fzV (L : Heap) (x : GEdge) : V.fzs L (x.enc.map V.d) = x.enc.map V.d := by simp [GEdge.enc, V.fzs, V.fz]
@[simp] theorem GEdge.eqV (x y : GEdge) : eqVs (x.enc.map V.d) (y.enc.map V.d) = some (decide (x = y)) := by
  rcases x with ⟨a_0, a_1, ⟨a_2_0, a_2_1, a_2_2, a_2_3, a_2_4⟩⟩
  rcases y with ⟨b_0, b_1, ⟨b_2_0, b_2_1, b_2_2, b_2_3, b_2_4⟩⟩
  simp only [GEdge.enc, List.map, eqVs, vals, eqVals, eqV1, if_true, Option.some.injEq, bytes_beq]
  rw [Bool.eq_iff_iff]
  simp [and_assoc]
@[simp] theorem GEdge.fitV (x : GEdge) : fitVs [.i .i64, .i .i64, .i .i64, .i .i64, .i .i64, .i .i64, .i .i64] (x.enc.map V.d) = true := by
  simp [GEdge.enc, fitVs, vals, fits, fit1]
def GEdge.zero : GEdge := ⟨0, 0, GCmd.zero⟩
theorem GEdge.zero_enc : GEdge.zero.enc = [D.v (.int .i64 0), D.v (.int .i64 0), D.v (.int .i64 0), D.v (.int .i64 0), D.v (.int .i64 0), D.v (.int .i64 0), D.v (.int .i64 0)] := rfl
@[simp] theorem GEdge.getZ (o : Option GEdge) : (o.map GEdge.enc).getD [D.v (.int .i64 0), D.v (.int .i64 0), D.v (.int .i64 0), D.v (.int .i64 0), D.v (.int .i64 0), D.v (.int .i64 0), D.v (.int .i64 0)] = (o.getD GEdge.zero).enc := by cases o <;> rfl
@[simp] theorem GEdge.getV (o : Option GEdge) : (o.map (fun x => x.enc.map V.d)).getD [V.d (D.v (.int .i64 0)), V.d (D.v (.int .i64 0)), V.d (D.v (.int .i64 0)), V.d (D.v (.int .i64 0)), V.d (D.v (.int .i64 0)), V.d (D.v (.int .i64 0)), V.d (D.v (.int .i64 0))] = ((o.getD GEdge.zero).enc).map V.d := by cases o <;> rfl
theorem GEdge.cellAt (l : List GEdge) (i j : Nat) (z : D) (h : GEdge.zero.enc[j]? = some z) : cellAt (dd (l.map GEdge.enc)) i j [V.d z] = V.d (((l[i]?.getD GEdge.zero).enc[j]?).getD default) := by
  unfold Go.Ab.cellAt
  rw [dd_get, List.getElem?_map]
  cases hl : l[i]? with
  | none => simp [h]
  | some a =>
    have hj := (List.getElem?_eq_some_iff.1 h).1
    have hj' : j < a.enc.length := by rw [GEdge.enc_length] at hj ⊢; exact hj
    simp only [Option.map_some, List.getElem?_map, List.getElem?_eq_getElem hj', Option.getD_some]
@[simp] theorem GEdge.cellAt_0 (l : List GEdge) (i : Nat) : Go.Ab.cellAt (dd (l.map GEdge.enc)) i 0 [V.d (D.v (.int .i64 0))] = V.d (D.v (.int .i64 (l[i]?.getD GEdge.zero).From)) := GEdge.cellAt l i 0 _ rfl
@[simp] theorem GEdge.cellAt_1 (l : List GEdge) (i : Nat) : Go.Ab.cellAt (dd (l.map GEdge.enc)) i 1 [V.d (D.v (.int .i64 0))] = V.d (D.v (.int .i64 (l[i]?.getD GEdge.zero).To)) := GEdge.cellAt l i 1 _ rfl
@[simp] theorem GEdge.cellAt_2 (l : List GEdge) (i : Nat) : Go.Ab.cellAt (dd (l.map GEdge.enc)) i 2 [V.d (D.v (.int .i64 0))] = V.d (D.v (.int .i64 (l[i]?.getD GEdge.zero).Cmd.Verb)) := GEdge.cellAt l i 2 _ rfl
@[simp] theorem GEdge.cellAt_3 (l : List GEdge) (i : Nat) : Go.Ab.cellAt (dd (l.map GEdge.enc)) i 3 [V.d (D.v (.int .i64 0))] = V.d (D.v (.int .i64 (l[i]?.getD GEdge.zero).Cmd.Noun)) := GEdge.cellAt l i 3 _ rfl
@[simp] theorem GEdge.cellAt_4 (l : List GEdge) (i : Nat) : Go.Ab.cellAt (dd (l.map GEdge.enc)) i 4 [V.d (D.v (.int .i64 0))] = V.d (D.v (.int .i64 (l[i]?.getD GEdge.zero).Cmd.Second)) := GEdge.cellAt l i 4 _ rfl
@[simp] theorem GEdge.cellAt_5 (l : List GEdge) (i : Nat) : Go.Ab.cellAt (dd (l.map GEdge.enc)) i 5 [V.d (D.v (.int .i64 0))] = V.d (D.v (.int .i64 (l[i]?.getD GEdge.zero).Cmd.Number)) := GEdge.cellAt l i 5 _ rfl
@[simp] theorem GEdge.cellAt_6 (l : List GEdge) (i : Nat) : Go.Ab.cellAt (dd (l.map GEdge.enc)) i 6 [V.d (D.v (.int .i64 0))] = V.d (D.v (.int .i64 (l[i]?.getD GEdge.zero).Cmd.Dir)) := GEdge.cellAt l i 6 _ rfl
@[simp] theorem GEdge.aggAt (l : List GEdge) (i : Nat) : Go.Ab.aggAt (dd (l.map GEdge.enc)) i 0 7 [V.d (D.v (.int .i64 0)), V.d (D.v (.int .i64 0)), V.d (D.v (.int .i64 0)), V.d (D.v (.int .i64 0)), V.d (D.v (.int .i64 0)), V.d (D.v (.int .i64 0)), V.d (D.v (.int .i64 0))] = (l[i]?.getD GEdge.zero).enc.map V.d := by
  unfold Go.Ab.aggAt
  rw [dd_get, List.getElem?_map]
  cases l[i]? <;> rfl
@[simp] theorem GEdge.dropAll (x : GEdge) : List.drop 7 x.enc = [] := rfl
@[simp] theorem GEdge.dropAllv (x : GEdge) : List.drop 7 (x.enc.map V.d) = [] := rfl
@[simp] theorem GEdge.enc_all (x : GEdge) : x.enc.take 7 = x.enc := rfl
@[simp] theorem GEdge.enc_allv (x : GEdge) : List.take 7 (x.enc.map V.d) = x.enc.map V.d := rfl
@[simp] theorem GEdge.sub_Cmd (x : GEdge) : List.take 5 (List.drop 2 x.enc) = x.Cmd.enc := rfl
@[simp] theorem GEdge.subv_Cmd (x : GEdge) : List.take 5 (List.drop 2 (x.enc.map V.d)) = x.Cmd.enc.map V.d := rfl
@[simp] theorem GEdge.tailv_Cmd (x : GEdge) : List.drop 2 (x.enc.map V.d) = x.Cmd.enc.map V.d := rfl
@[simp] theorem GEdge.tail_Cmd (x : GEdge) : List.drop 2 x.enc = x.Cmd.enc := rfl
def GEdge.wf (x : GEdge) : Prop := inR .i64 x.From ∧ inR .i64 x.To ∧ x.Cmd.wf
theorem tyK_37 : tyK Go.Proofs.Try.prog 37 = .st [3, 3, 35] := by kernel_rfl
theorem GEdge.of {ys : List D} (h : HasT Go.Proofs.Try.prog 37 ys) : ∃ x : GEdge, ys = x.enc ∧ x.wf := by
  have h' := HasT.st_inv h tyK_37
  obtain ⟨a0_, r0, hr0, t0, h0⟩ := h'
  obtain ⟨a1_, r1, hr1, t1, h1⟩ := h0
  obtain ⟨a2_, r2, hr2, t2, h2⟩ := h1
  simp only [HasTs] at h2
  subst h2
  subst hr2
  subst hr1
  subst hr0
  obtain ⟨a0_', rfl, a0_w⟩ := HasT.int_inv t0 tyK_3
  obtain ⟨a1_', rfl, a1_w⟩ := HasT.int_inv t1 tyK_3
  obtain ⟨a2_', rfl, a2_w⟩ := GCmd.of t2
  exact ⟨⟨a0_', a1_', a2_'⟩, rfl, ⟨a0_w, a1_w, a2_w⟩⟩
structure GGraph where
  States : (List GWorld)
  Edges : (List GEdge)
  Whole : Bool
  deriving DecidableEq
def GGraph.enc (x : GGraph) : List D := [D.sl (x.States.map GWorld.enc), D.sl (x.Edges.map GEdge.enc), D.v (.bool x.Whole)]
@[simp] theorem GGraph.enc_length (x : GGraph) : x.enc.length = 3 := rfl
@[simp] theorem GGraph.enc_0 (x : GGraph) : x.enc[0]? = some (D.sl (x.States.map GWorld.enc)) := rfl
@[simp] theorem GGraph.encg_0 (x : GGraph) (h : 0 < x.enc.length) : x.enc[0] = D.sl (x.States.map GWorld.enc) := rfl
@[simp] theorem GGraph.enc_1 (x : GGraph) : x.enc[1]? = some (D.sl (x.Edges.map GEdge.enc)) := rfl
@[simp] theorem GGraph.encg_1 (x : GGraph) (h : 1 < x.enc.length) : x.enc[1] = D.sl (x.Edges.map GEdge.enc) := rfl
@[simp] theorem GGraph.enc_2 (x : GGraph) : x.enc[2]? = some (D.v (.bool x.Whole)) := rfl
@[simp] theorem GGraph.encg_2 (x : GGraph) (h : 2 < x.enc.length) : x.enc[2] = D.v (.bool x.Whole) := rfl
@[simp] theorem GGraph.fzV (L : Heap) (x : GGraph) : V.fzs L (x.enc.map V.d) = x.enc.map V.d := by simp [GGraph.enc, V.fzs, V.fz]
def GGraph.zero : GGraph := ⟨[], [], false⟩
theorem GGraph.zero_enc : GGraph.zero.enc = [D.sl [], D.sl [], D.v (.bool false)] := rfl
@[simp] theorem GGraph.getZ (o : Option GGraph) : (o.map GGraph.enc).getD [D.sl [], D.sl [], D.v (.bool false)] = (o.getD GGraph.zero).enc := by cases o <;> rfl
@[simp] theorem GGraph.getV (o : Option GGraph) : (o.map (fun x => x.enc.map V.d)).getD [V.d (D.sl []), V.d (D.sl []), V.d (D.v (.bool false))] = ((o.getD GGraph.zero).enc).map V.d := by cases o <;> rfl
theorem GGraph.cellAt (l : List GGraph) (i j : Nat) (z : D) (h : GGraph.zero.enc[j]? = some z) : cellAt (dd (l.map GGraph.enc)) i j [V.d z] = V.d (((l[i]?.getD GGraph.zero).enc[j]?).getD default) := by
  unfold Go.Ab.cellAt
  rw [dd_get, List.getElem?_map]
  cases hl : l[i]? with
  | none => simp [h]
  | some a =>
    have hj := (List.getElem?_eq_some_iff.1 h).1
    have hj' : j < a.enc.length := by rw [GGraph.enc_length] at hj ⊢; exact hj
    simp only [Option.map_some, List.getElem?_map, List.getElem?_eq_getElem hj', Option.getD_some]
@[simp] theorem GGraph.cellAt_0 (l : List GGraph) (i : Nat) : Go.Ab.cellAt (dd (l.map GGraph.enc)) i 0 [V.d (D.sl [])] = V.d (D.sl ((l[i]?.getD GGraph.zero).States.map GWorld.enc)) := GGraph.cellAt l i 0 _ rfl
@[simp] theorem GGraph.cellAt_1 (l : List GGraph) (i : Nat) : Go.Ab.cellAt (dd (l.map GGraph.enc)) i 1 [V.d (D.sl [])] = V.d (D.sl ((l[i]?.getD GGraph.zero).Edges.map GEdge.enc)) := GGraph.cellAt l i 1 _ rfl
@[simp] theorem GGraph.cellAt_2 (l : List GGraph) (i : Nat) : Go.Ab.cellAt (dd (l.map GGraph.enc)) i 2 [V.d (D.v (.bool false))] = V.d (D.v (.bool (l[i]?.getD GGraph.zero).Whole)) := GGraph.cellAt l i 2 _ rfl
@[simp] theorem GGraph.aggAt (l : List GGraph) (i : Nat) : Go.Ab.aggAt (dd (l.map GGraph.enc)) i 0 3 [V.d (D.sl []), V.d (D.sl []), V.d (D.v (.bool false))] = (l[i]?.getD GGraph.zero).enc.map V.d := by
  unfold Go.Ab.aggAt
  rw [dd_get, List.getElem?_map]
  cases l[i]? <;> rfl
@[simp] theorem GGraph.dropAll (x : GGraph) : List.drop 3 x.enc = [] := rfl
@[simp] theorem GGraph.dropAllv (x : GGraph) : List.drop 3 (x.enc.map V.d) = [] := rfl
@[simp] theorem GGraph.enc_all (x : GGraph) : x.enc.take 3 = x.enc := rfl
@[simp] theorem GGraph.enc_allv (x : GGraph) : List.take 3 (x.enc.map V.d) = x.enc.map V.d := rfl
def GGraph.wf (x : GGraph) : Prop := x.States.length * 216 ≤ 140737488351232 ∧ (∀ y ∈ x.States, y.wf) ∧ x.Edges.length * 56 ≤ 140737488351232 ∧ (∀ y ∈ x.Edges, y.wf)
theorem tyK_25 : tyK Go.Proofs.Try.prog 25 = .st [22, 23, 4] := by kernel_rfl
theorem tyK_22 : tyK Go.Proofs.Try.prog 22 = .sl 40 216 := by kernel_rfl
theorem tyK_23 : tyK Go.Proofs.Try.prog 23 = .sl 37 56 := by kernel_rfl
theorem tyK_4 : tyK Go.Proofs.Try.prog 4 = .bool := by kernel_rfl
theorem GGraph.of {ys : List D} (h : HasT Go.Proofs.Try.prog 25 ys) : ∃ x : GGraph, ys = x.enc ∧ x.wf := by
  have h' := HasT.st_inv h tyK_25
  obtain ⟨a0_, r0, hr0, t0, h0⟩ := h'
  obtain ⟨a1_, r1, hr1, t1, h1⟩ := h0
  obtain ⟨a2_, r2, hr2, t2, h2⟩ := h1
  simp only [HasTs] at h2
  subst h2
  subst hr2
  subst hr1
  subst hr0
  obtain ⟨a0_0, rfl, a0_h, a0_l, a0_w⟩ := HasT.sl_inv t0 tyK_22
  obtain ⟨a0_', rfl, a0_a⟩ := map_of (f := GWorld.enc) (p := fun (y : GWorld) => y.wf) (fun a0_e hx => by
    have a0_q := a0_h a0_e hx
    obtain ⟨a0_e', rfl, a0_ew⟩ := GWorld.of a0_q
    exact ⟨a0_e', rfl, a0_ew⟩)
  obtain ⟨a1_0, rfl, a1_h, a1_l, a1_w⟩ := HasT.sl_inv t1 tyK_23
  obtain ⟨a1_', rfl, a1_a⟩ := map_of (f := GEdge.enc) (p := fun (y : GEdge) => y.wf) (fun a1_e hx => by
    have a1_q := a1_h a1_e hx
    obtain ⟨a1_e', rfl, a1_ew⟩ := GEdge.of a1_q
    exact ⟨a1_e', rfl, a1_ew⟩)
  obtain ⟨a2_', rfl⟩ := HasT.bool_inv t2 tyK_4
  exact ⟨⟨a0_', a1_', a2_'⟩, rfl, ⟨(by simpa using a0_w), a0_a, (by simpa using a1_w), a1_a⟩⟩
end Go.Ab
