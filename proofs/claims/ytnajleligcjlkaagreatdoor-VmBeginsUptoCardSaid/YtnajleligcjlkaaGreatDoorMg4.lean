/-
  The texts Gs Q Lp Wr Fam Pn Rf Rg Rh Ri Sc Bfits Bnum Ed Vframe Nest Bnest, one behind the other.
-/
import Derived.Test.YtnajleligcjlkaaGreatDoorMg3
import Derived.RangeFuncIn
import Derived.Lib.Builder
import Derived.Laws.Externs
set_option linter.unusedSimpArgs false
set_option linter.unusedVariables false
namespace Go.Ab
open Go.Proofs
structure GWay where
  Dir : Int
  To : Int
  When : Int
  Else : Int
  deriving DecidableEq
def GWay.enc (x : GWay) : List D := [D.v (.int .i64 x.Dir), D.v (.int .i64 x.To), D.v (.int .i64 x.When), D.v (.int .i64 x.Else)]
@[simp] theorem GWay.enc_length (x : GWay) : x.enc.length = 4 := rfl
@[simp] theorem GWay.enc_0 (x : GWay) : x.enc[0]? = some (D.v (.int .i64 x.Dir)) := rfl
@[simp] theorem GWay.encg_0 (x : GWay) (h : 0 < x.enc.length) : x.enc[0] = D.v (.int .i64 x.Dir) := rfl
@[simp] theorem GWay.enc_1 (x : GWay) : x.enc[1]? = some (D.v (.int .i64 x.To)) := rfl
@[simp] theorem GWay.encg_1 (x : GWay) (h : 1 < x.enc.length) : x.enc[1] = D.v (.int .i64 x.To) := rfl
@[simp] theorem GWay.enc_2 (x : GWay) : x.enc[2]? = some (D.v (.int .i64 x.When)) := rfl
@[simp] theorem GWay.encg_2 (x : GWay) (h : 2 < x.enc.length) : x.enc[2] = D.v (.int .i64 x.When) := rfl
@[simp] theorem GWay.enc_3 (x : GWay) : x.enc[3]? = some (D.v (.int .i64 x.Else)) := rfl
@[simp] theorem GWay.encg_3 (x : GWay) (h : 3 < x.enc.length) : x.enc[3] = D.v (.int .i64 x.Else) := rfl
def GWay.zero : GWay := ⟨0, 0, 0, 0⟩
theorem GWay.zero_enc : GWay.zero.enc = [D.v (.int .i64 0), D.v (.int .i64 0), D.v (.int .i64 0), D.v (.int .i64 0)] := rfl
@[simp] theorem GWay.getZ (o : Option GWay) : (o.map GWay.enc).getD [D.v (.int .i64 0), D.v (.int .i64 0), D.v (.int .i64 0), D.v (.int .i64 0)] = (o.getD GWay.zero).enc := by cases o <;> rfl
@[simp] theorem GWay.dropAll (x : GWay) : List.drop 4 x.enc = [] := rfl
@[simp] theorem GWay.dropAllv (x : GWay) : List.drop 4 (x.enc.map V.d) = [] := rfl
@[simp] theorem GWay.enc_all (x : GWay) : x.enc.take 4 = x.enc := rfl
@[simp] theorem GWay.enc_allv (x : GWay) : List.take 4 (x.enc.map V.d) = x.enc.map V.d := rfl
def GWay.wf (x : GWay) : Prop := inR .i64 x.Dir ∧ inR .i64 x.To ∧ inR .i64 x.When ∧ inR .i64 x.Else
theorem tyK_191 : tyK Tryz.prog 191 = .st [3, 3, 3, 3] := by kernel_rfl
theorem tyK_3 : tyK Tryz.prog 3 = .int .i64 := by kernel_rfl
theorem GWay.of {ys : List D} (h : HasT Tryz.prog 191 ys) : ∃ x : GWay, ys = x.enc ∧ x.wf := by
  have h' := HasT.st_inv h tyK_191
  obtain ⟨a0_, r0, hr0, t0, h0⟩ := h'
  obtain ⟨a1_, r1, hr1, t1, h1⟩ := h0
  obtain ⟨a2_, r2, hr2, t2, h2⟩ := h1
  obtain ⟨a3_, r3, hr3, t3, h3⟩ := h2
  simp only [HasTs] at h3
  subst h3
  subst hr3
  subst hr2
  subst hr1
  subst hr0
  obtain ⟨a0_', rfl, a0_w⟩ := HasT.int_inv t0 tyK_3
  obtain ⟨a1_', rfl, a1_w⟩ := HasT.int_inv t1 tyK_3
  obtain ⟨a2_', rfl, a2_w⟩ := HasT.int_inv t2 tyK_3
  obtain ⟨a3_', rfl, a3_w⟩ := HasT.int_inv t3 tyK_3
  exact ⟨⟨a0_', a1_', a2_', a3_'⟩, rfl, ⟨a0_w, a1_w, a2_w, a3_w⟩⟩
structure GThing where
  Title : Int
  Text : Int
  Parent : Int
  Flags : Int
  Room : Bool
  Props : (List Int)
  Words : (List ByteArray)
  Adjs : (List ByteArray)
  Ways : (List GWay)
  deriving DecidableEq
def GThing.enc (x : GThing) : List D := [D.v (.int .i64 x.Title), D.v (.int .i64 x.Text), D.v (.int .i64 x.Parent), D.v (.int .i64 x.Flags), D.v (.bool x.Room), D.sl (encI x.Props), D.sl (encS x.Words), D.sl (encS x.Adjs), D.sl (x.Ways.map GWay.enc)]
@[simp] theorem GThing.enc_length (x : GThing) : x.enc.length = 9 := rfl
@[simp] theorem GThing.enc_0 (x : GThing) : x.enc[0]? = some (D.v (.int .i64 x.Title)) := rfl
@[simp] theorem GThing.encg_0 (x : GThing) (h : 0 < x.enc.length) : x.enc[0] = D.v (.int .i64 x.Title) := rfl
@[simp] theorem GThing.enc_1 (x : GThing) : x.enc[1]? = some (D.v (.int .i64 x.Text)) := rfl
@[simp] theorem GThing.encg_1 (x : GThing) (h : 1 < x.enc.length) : x.enc[1] = D.v (.int .i64 x.Text) := rfl
@[simp] theorem GThing.enc_2 (x : GThing) : x.enc[2]? = some (D.v (.int .i64 x.Parent)) := rfl
@[simp] theorem GThing.encg_2 (x : GThing) (h : 2 < x.enc.length) : x.enc[2] = D.v (.int .i64 x.Parent) := rfl
@[simp] theorem GThing.enc_3 (x : GThing) : x.enc[3]? = some (D.v (.int .i64 x.Flags)) := rfl
@[simp] theorem GThing.encg_3 (x : GThing) (h : 3 < x.enc.length) : x.enc[3] = D.v (.int .i64 x.Flags) := rfl
@[simp] theorem GThing.enc_4 (x : GThing) : x.enc[4]? = some (D.v (.bool x.Room)) := rfl
@[simp] theorem GThing.encg_4 (x : GThing) (h : 4 < x.enc.length) : x.enc[4] = D.v (.bool x.Room) := rfl
@[simp] theorem GThing.enc_5 (x : GThing) : x.enc[5]? = some (D.sl (encI x.Props)) := rfl
@[simp] theorem GThing.encg_5 (x : GThing) (h : 5 < x.enc.length) : x.enc[5] = D.sl (encI x.Props) := rfl
@[simp] theorem GThing.enc_6 (x : GThing) : x.enc[6]? = some (D.sl (encS x.Words)) := rfl
@[simp] theorem GThing.encg_6 (x : GThing) (h : 6 < x.enc.length) : x.enc[6] = D.sl (encS x.Words) := rfl
@[simp] theorem GThing.enc_7 (x : GThing) : x.enc[7]? = some (D.sl (encS x.Adjs)) := rfl
@[simp] theorem GThing.encg_7 (x : GThing) (h : 7 < x.enc.length) : x.enc[7] = D.sl (encS x.Adjs) := rfl
@[simp] theorem GThing.enc_8 (x : GThing) : x.enc[8]? = some (D.sl (x.Ways.map GWay.enc)) := rfl
@[simp] theorem GThing.encg_8 (x : GThing) (h : 8 < x.enc.length) : x.enc[8] = D.sl (x.Ways.map GWay.enc) := rfl
def GThing.zero : GThing := ⟨0, 0, 0, 0, false, [], [], [], []⟩
theorem GThing.zero_enc : GThing.zero.enc = [D.v (.int .i64 0), D.v (.int .i64 0), D.v (.int .i64 0), D.v (.int .i64 0), D.v (.bool false), D.sl [], D.sl [], D.sl [], D.sl []] := rfl
@[simp] theorem GThing.getZ (o : Option GThing) : (o.map GThing.enc).getD [D.v (.int .i64 0), D.v (.int .i64 0), D.v (.int .i64 0), D.v (.int .i64 0), D.v (.bool false), D.sl [], D.sl [], D.sl [], D.sl []] = (o.getD GThing.zero).enc := by cases o <;> rfl
@[simp] theorem GThing.dropAll (x : GThing) : List.drop 9 x.enc = [] := rfl
@[simp] theorem GThing.dropAllv (x : GThing) : List.drop 9 (x.enc.map V.d) = [] := rfl
@[simp] theorem GThing.enc_all (x : GThing) : x.enc.take 9 = x.enc := rfl
@[simp] theorem GThing.enc_allv (x : GThing) : List.take 9 (x.enc.map V.d) = x.enc.map V.d := rfl
def GThing.wf (x : GThing) : Prop := inR .i64 x.Title ∧ inR .i64 x.Text ∧ inR .i64 x.Parent ∧ inR .i64 x.Flags ∧ x.Props.length * 8 ≤ 140737488351232 ∧ (∀ y0 : Int, y0 ∈ x.Props → inR .i64 y0) ∧ x.Words.length * 16 ≤ 140737488351232 ∧ (∀ y0 : ByteArray, y0 ∈ x.Words → y0.size ≤ 140737488351232) ∧ x.Adjs.length * 16 ≤ 140737488351232 ∧ (∀ y0 : ByteArray, y0 ∈ x.Adjs → y0.size ≤ 140737488351232) ∧ x.Ways.length * 32 ≤ 140737488351232 ∧ (∀ y0 : GWay, y0 ∈ x.Ways → y0.wf)
theorem GThing.wl_Props {x : GThing} (h : x.wf) : x.Props.length * 8 ≤ 140737488351232 := h.2.2.2.2.1
theorem GThing.wl_Words {x : GThing} (h : x.wf) : x.Words.length * 16 ≤ 140737488351232 := h.2.2.2.2.2.2.1
theorem GThing.wf_Words {x : GThing} (h : x.wf) : (∀ y0 : ByteArray, y0 ∈ x.Words → y0.size ≤ 140737488351232) := h.2.2.2.2.2.2.2.1
theorem GThing.wl_Adjs {x : GThing} (h : x.wf) : x.Adjs.length * 16 ≤ 140737488351232 := h.2.2.2.2.2.2.2.2.1
theorem GThing.wf_Adjs {x : GThing} (h : x.wf) : (∀ y0 : ByteArray, y0 ∈ x.Adjs → y0.size ≤ 140737488351232) := h.2.2.2.2.2.2.2.2.2.1
theorem GThing.wl_Ways {x : GThing} (h : x.wf) : x.Ways.length * 32 ≤ 140737488351232 := h.2.2.2.2.2.2.2.2.2.2.1
theorem GThing.wf_Ways {x : GThing} (h : x.wf) : (∀ y0 : GWay, y0 ∈ x.Ways → y0.wf) := h.2.2.2.2.2.2.2.2.2.2.2
theorem tyK_37 : tyK Tryz.prog 37 = .st [3, 3, 3, 3, 4, 23, 22, 22, 35] := by kernel_rfl
theorem tyK_4 : tyK Tryz.prog 4 = .bool := by kernel_rfl
theorem tyK_23 : tyK Tryz.prog 23 = .sl 3 8 := by kernel_rfl
theorem tyK_22 : tyK Tryz.prog 22 = .sl 9 16 := by kernel_rfl
theorem tyK_9 : tyK Tryz.prog 9 = .str := by kernel_rfl
theorem tyK_35 : tyK Tryz.prog 35 = .sl 191 32 := by kernel_rfl
theorem GThing.of {ys : List D} (h : HasT Tryz.prog 37 ys) : ∃ x : GThing, ys = x.enc ∧ x.wf := by
  have h' := HasT.st_inv h tyK_37
  obtain ⟨a0_, r0, hr0, t0, h0⟩ := h'
  obtain ⟨a1_, r1, hr1, t1, h1⟩ := h0
  obtain ⟨a2_, r2, hr2, t2, h2⟩ := h1
  obtain ⟨a3_, r3, hr3, t3, h3⟩ := h2
  obtain ⟨a4_, r4, hr4, t4, h4⟩ := h3
  obtain ⟨a5_, r5, hr5, t5, h5⟩ := h4
  obtain ⟨a6_, r6, hr6, t6, h6⟩ := h5
  obtain ⟨a7_, r7, hr7, t7, h7⟩ := h6
  obtain ⟨a8_, r8, hr8, t8, h8⟩ := h7
  simp only [HasTs] at h8
  subst h8
  subst hr8
  subst hr7
  subst hr6
  subst hr5
  subst hr4
  subst hr3
  subst hr2
  subst hr1
  subst hr0
  obtain ⟨a0_', rfl, a0_w⟩ := HasT.int_inv t0 tyK_3
  obtain ⟨a1_', rfl, a1_w⟩ := HasT.int_inv t1 tyK_3
  obtain ⟨a2_', rfl, a2_w⟩ := HasT.int_inv t2 tyK_3
  obtain ⟨a3_', rfl, a3_w⟩ := HasT.int_inv t3 tyK_3
  obtain ⟨a4_', rfl⟩ := HasT.bool_inv t4 tyK_4
  obtain ⟨a5_0, rfl, a5_h, a5_l, a5_w⟩ := HasT.sl_inv t5 tyK_23
  obtain ⟨a5_', rfl, a5_a⟩ := map_of (f := (fun y => [D.v (.int .i64 y)])) (p := fun (y : Int) => inR .i64 y) (fun a5_e hx => by
    have a5_q := a5_h a5_e hx
    obtain ⟨a5_e', rfl, a5_ew⟩ := HasT.int_inv a5_q tyK_3
    exact ⟨a5_e', rfl, a5_ew⟩)
  obtain ⟨a6_0, rfl, a6_h, a6_l, a6_w⟩ := HasT.sl_inv t6 tyK_22
  obtain ⟨a6_', rfl, a6_a⟩ := map_of (f := (fun y => [D.v (.string y)])) (p := fun (y : ByteArray) => y.size ≤ 140737488351232) (fun a6_e hx => by
    have a6_q := a6_h a6_e hx
    obtain ⟨a6_e', rfl, a6_ew⟩ := HasT.str_inv a6_q tyK_9
    exact ⟨a6_e', rfl, a6_ew⟩)
  obtain ⟨a7_0, rfl, a7_h, a7_l, a7_w⟩ := HasT.sl_inv t7 tyK_22
  obtain ⟨a7_', rfl, a7_a⟩ := map_of (f := (fun y => [D.v (.string y)])) (p := fun (y : ByteArray) => y.size ≤ 140737488351232) (fun a7_e hx => by
    have a7_q := a7_h a7_e hx
    obtain ⟨a7_e', rfl, a7_ew⟩ := HasT.str_inv a7_q tyK_9
    exact ⟨a7_e', rfl, a7_ew⟩)
  obtain ⟨a8_0, rfl, a8_h, a8_l, a8_w⟩ := HasT.sl_inv t8 tyK_35
  obtain ⟨a8_', rfl, a8_a⟩ := map_of (f := GWay.enc) (p := fun (y : GWay) => y.wf) (fun a8_e hx => by
    have a8_q := a8_h a8_e hx
    obtain ⟨a8_e', rfl, a8_ew⟩ := GWay.of a8_q
    exact ⟨a8_e', rfl, a8_ew⟩)
  exact ⟨⟨a0_', a1_', a2_', a3_', a4_', a5_', a6_', a7_', a8_'⟩, rfl, ⟨a0_w, a1_w, a2_w, a3_w, (by simpa using a5_w), a5_a, (by simpa using a6_w), a6_a, (by simpa using a7_w), a7_a, (by simpa using a8_w), a8_a⟩⟩
structure GSlot where
  Kind : Int
  Words : (List ByteArray)
  deriving DecidableEq
def GSlot.enc (x : GSlot) : List D := [D.v (.int .i64 x.Kind), D.sl (encS x.Words)]
@[simp] theorem GSlot.enc_length (x : GSlot) : x.enc.length = 2 := rfl
@[simp] theorem GSlot.enc_0 (x : GSlot) : x.enc[0]? = some (D.v (.int .i64 x.Kind)) := rfl
@[simp] theorem GSlot.encg_0 (x : GSlot) (h : 0 < x.enc.length) : x.enc[0] = D.v (.int .i64 x.Kind) := rfl
@[simp] theorem GSlot.enc_1 (x : GSlot) : x.enc[1]? = some (D.sl (encS x.Words)) := rfl
@[simp] theorem GSlot.encg_1 (x : GSlot) (h : 1 < x.enc.length) : x.enc[1] = D.sl (encS x.Words) := rfl
def GSlot.zero : GSlot := ⟨0, []⟩
theorem GSlot.zero_enc : GSlot.zero.enc = [D.v (.int .i64 0), D.sl []] := rfl
@[simp] theorem GSlot.getZ (o : Option GSlot) : (o.map GSlot.enc).getD [D.v (.int .i64 0), D.sl []] = (o.getD GSlot.zero).enc := by cases o <;> rfl
@[simp] theorem GSlot.dropAll (x : GSlot) : List.drop 2 x.enc = [] := rfl
@[simp] theorem GSlot.dropAllv (x : GSlot) : List.drop 2 (x.enc.map V.d) = [] := rfl
@[simp] theorem GSlot.enc_all (x : GSlot) : x.enc.take 2 = x.enc := rfl
@[simp] theorem GSlot.enc_allv (x : GSlot) : List.take 2 (x.enc.map V.d) = x.enc.map V.d := rfl
def GSlot.wf (x : GSlot) : Prop := inR .i64 x.Kind ∧ x.Words.length * 16 ≤ 140737488351232 ∧ (∀ y0 : ByteArray, y0 ∈ x.Words → y0.size ≤ 140737488351232)
theorem GSlot.wl_Words {x : GSlot} (h : x.wf) : x.Words.length * 16 ≤ 140737488351232 := h.2.1
theorem GSlot.wf_Words {x : GSlot} (h : x.wf) : (∀ y0 : ByteArray, y0 ∈ x.Words → y0.size ≤ 140737488351232) := h.2.2
theorem tyK_193 : tyK Tryz.prog 193 = .st [3, 22] := by kernel_rfl
theorem GSlot.of {ys : List D} (h : HasT Tryz.prog 193 ys) : ∃ x : GSlot, ys = x.enc ∧ x.wf := by
  have h' := HasT.st_inv h tyK_193
  obtain ⟨a0_, r0, hr0, t0, h0⟩ := h'
  obtain ⟨a1_, r1, hr1, t1, h1⟩ := h0
  simp only [HasTs] at h1
  subst h1
  subst hr1
  subst hr0
  obtain ⟨a0_', rfl, a0_w⟩ := HasT.int_inv t0 tyK_3
  obtain ⟨a1_0, rfl, a1_h, a1_l, a1_w⟩ := HasT.sl_inv t1 tyK_22
  obtain ⟨a1_', rfl, a1_a⟩ := map_of (f := (fun y => [D.v (.string y)])) (p := fun (y : ByteArray) => y.size ≤ 140737488351232) (fun a1_e hx => by
    have a1_q := a1_h a1_e hx
    obtain ⟨a1_e', rfl, a1_ew⟩ := HasT.str_inv a1_q tyK_9
    exact ⟨a1_e', rfl, a1_ew⟩)
  exact ⟨⟨a0_', a1_'⟩, rfl, ⟨a0_w, (by simpa using a1_w), a1_a⟩⟩
structure GAct where
  Meta : Bool
  Lines : (List (List GSlot))
  deriving DecidableEq
def GAct.enc (x : GAct) : List D := [D.v (.bool x.Meta), D.sl (encSl (List.map GSlot.enc) x.Lines)]
@[simp] theorem GAct.enc_length (x : GAct) : x.enc.length = 2 := rfl
@[simp] theorem GAct.enc_0 (x : GAct) : x.enc[0]? = some (D.v (.bool x.Meta)) := rfl
@[simp] theorem GAct.encg_0 (x : GAct) (h : 0 < x.enc.length) : x.enc[0] = D.v (.bool x.Meta) := rfl
@[simp] theorem GAct.enc_1 (x : GAct) : x.enc[1]? = some (D.sl (encSl (List.map GSlot.enc) x.Lines)) := rfl
@[simp] theorem GAct.encg_1 (x : GAct) (h : 1 < x.enc.length) : x.enc[1] = D.sl (encSl (List.map GSlot.enc) x.Lines) := rfl
def GAct.zero : GAct := ⟨false, []⟩
theorem GAct.zero_enc : GAct.zero.enc = [D.v (.bool false), D.sl []] := rfl
@[simp] theorem GAct.dropAll (x : GAct) : List.drop 2 x.enc = [] := rfl
@[simp] theorem GAct.dropAllv (x : GAct) : List.drop 2 (x.enc.map V.d) = [] := rfl
@[simp] theorem GAct.enc_all (x : GAct) : x.enc.take 2 = x.enc := rfl
@[simp] theorem GAct.enc_allv (x : GAct) : List.take 2 (x.enc.map V.d) = x.enc.map V.d := rfl
def GAct.wf (x : GAct) : Prop := x.Lines.length * 24 ≤ 140737488351232 ∧ (∀ y0 : (List GSlot), y0 ∈ x.Lines → y0.length * 32 ≤ 140737488351232 ∧ (∀ y1 : GSlot, y1 ∈ y0 → y1.wf))
theorem GAct.wl_Lines {x : GAct} (h : x.wf) : x.Lines.length * 24 ≤ 140737488351232 := h.1
theorem GAct.wf_Lines {x : GAct} (h : x.wf) : (∀ y0 : (List GSlot), y0 ∈ x.Lines → y0.length * 32 ≤ 140737488351232 ∧ (∀ y1 : GSlot, y1 ∈ y0 → y1.wf)) := h.2
theorem tyK_135 : tyK Tryz.prog 135 = .st [4, 133] := by kernel_rfl
theorem tyK_133 : tyK Tryz.prog 133 = .sl 137 24 := by kernel_rfl
theorem tyK_137 : tyK Tryz.prog 137 = .sl 193 32 := by kernel_rfl
theorem GAct.of {ys : List D} (h : HasT Tryz.prog 135 ys) : ∃ x : GAct, ys = x.enc ∧ x.wf := by
  have h' := HasT.st_inv h tyK_135
  obtain ⟨a0_, r0, hr0, t0, h0⟩ := h'
  obtain ⟨a1_, r1, hr1, t1, h1⟩ := h0
  simp only [HasTs] at h1
  subst h1
  subst hr1
  subst hr0
  obtain ⟨a0_', rfl⟩ := HasT.bool_inv t0 tyK_4
  obtain ⟨a1_0, rfl, a1_h, a1_l, a1_w⟩ := HasT.sl_inv t1 tyK_133
  obtain ⟨a1_', rfl, a1_a⟩ := map_of (f := (fun y => [D.sl (y.map GSlot.enc)])) (p := fun (y : (List GSlot)) => y.length * 32 ≤ 140737488351232 ∧ (∀ y1 : GSlot, y1 ∈ y → y1.wf)) (fun a1_e hx => by
    have a1_q := a1_h a1_e hx
    obtain ⟨a1_e0, rfl, a1_eh, a1_el, a1_ew⟩ := HasT.sl_inv a1_q tyK_137
    obtain ⟨a1_e', rfl, a1_ea⟩ := map_of (f := GSlot.enc) (p := fun (y : GSlot) => y.wf) (fun a1_ee hx => by
      have a1_eq := a1_eh a1_ee hx
      obtain ⟨a1_ee', rfl, a1_eew⟩ := GSlot.of a1_eq
      exact ⟨a1_ee', rfl, a1_eew⟩)
    exact ⟨a1_e', rfl, ⟨(by simpa using a1_ew), a1_ea⟩⟩)
  exact ⟨⟨a0_', a1_'⟩, rfl, ⟨(by simpa using a1_w), a1_a⟩⟩
structure GDeed where
  Verb : Int
  Phase : Int
  Noun : Int
  Second : Int
  When : Int
  Body : Int
  deriving DecidableEq
def GDeed.enc (x : GDeed) : List D := [D.v (.int .i64 x.Verb), D.v (.int .i64 x.Phase), D.v (.int .i64 x.Noun), D.v (.int .i64 x.Second), D.v (.int .i64 x.When), D.v (.int .i64 x.Body)]
@[simp] theorem GDeed.enc_length (x : GDeed) : x.enc.length = 6 := rfl
@[simp] theorem GDeed.enc_0 (x : GDeed) : x.enc[0]? = some (D.v (.int .i64 x.Verb)) := rfl
@[simp] theorem GDeed.encg_0 (x : GDeed) (h : 0 < x.enc.length) : x.enc[0] = D.v (.int .i64 x.Verb) := rfl
@[simp] theorem GDeed.enc_1 (x : GDeed) : x.enc[1]? = some (D.v (.int .i64 x.Phase)) := rfl
@[simp] theorem GDeed.encg_1 (x : GDeed) (h : 1 < x.enc.length) : x.enc[1] = D.v (.int .i64 x.Phase) := rfl
@[simp] theorem GDeed.enc_2 (x : GDeed) : x.enc[2]? = some (D.v (.int .i64 x.Noun)) := rfl
@[simp] theorem GDeed.encg_2 (x : GDeed) (h : 2 < x.enc.length) : x.enc[2] = D.v (.int .i64 x.Noun) := rfl
@[simp] theorem GDeed.enc_3 (x : GDeed) : x.enc[3]? = some (D.v (.int .i64 x.Second)) := rfl
@[simp] theorem GDeed.encg_3 (x : GDeed) (h : 3 < x.enc.length) : x.enc[3] = D.v (.int .i64 x.Second) := rfl
@[simp] theorem GDeed.enc_4 (x : GDeed) : x.enc[4]? = some (D.v (.int .i64 x.When)) := rfl
@[simp] theorem GDeed.encg_4 (x : GDeed) (h : 4 < x.enc.length) : x.enc[4] = D.v (.int .i64 x.When) := rfl
@[simp] theorem GDeed.enc_5 (x : GDeed) : x.enc[5]? = some (D.v (.int .i64 x.Body)) := rfl
@[simp] theorem GDeed.encg_5 (x : GDeed) (h : 5 < x.enc.length) : x.enc[5] = D.v (.int .i64 x.Body) := rfl
def GDeed.zero : GDeed := ⟨0, 0, 0, 0, 0, 0⟩
theorem GDeed.zero_enc : GDeed.zero.enc = [D.v (.int .i64 0), D.v (.int .i64 0), D.v (.int .i64 0), D.v (.int .i64 0), D.v (.int .i64 0), D.v (.int .i64 0)] := rfl
@[simp] theorem GDeed.dropAll (x : GDeed) : List.drop 6 x.enc = [] := rfl
@[simp] theorem GDeed.dropAllv (x : GDeed) : List.drop 6 (x.enc.map V.d) = [] := rfl
@[simp] theorem GDeed.enc_all (x : GDeed) : x.enc.take 6 = x.enc := rfl
@[simp] theorem GDeed.enc_allv (x : GDeed) : List.take 6 (x.enc.map V.d) = x.enc.map V.d := rfl
def GDeed.wf (x : GDeed) : Prop := inR .i64 x.Verb ∧ inR .i64 x.Phase ∧ inR .i64 x.Noun ∧ inR .i64 x.Second ∧ inR .i64 x.When ∧ inR .i64 x.Body
theorem tyK_139 : tyK Tryz.prog 139 = .st [3, 3, 3, 3, 3, 3] := by kernel_rfl
theorem GDeed.of {ys : List D} (h : HasT Tryz.prog 139 ys) : ∃ x : GDeed, ys = x.enc ∧ x.wf := by
  have h' := HasT.st_inv h tyK_139
  obtain ⟨a0_, r0, hr0, t0, h0⟩ := h'
  obtain ⟨a1_, r1, hr1, t1, h1⟩ := h0
  obtain ⟨a2_, r2, hr2, t2, h2⟩ := h1
  obtain ⟨a3_, r3, hr3, t3, h3⟩ := h2
  obtain ⟨a4_, r4, hr4, t4, h4⟩ := h3
  obtain ⟨a5_, r5, hr5, t5, h5⟩ := h4
  simp only [HasTs] at h5
  subst h5
  subst hr5
  subst hr4
  subst hr3
  subst hr2
  subst hr1
  subst hr0
  obtain ⟨a0_', rfl, a0_w⟩ := HasT.int_inv t0 tyK_3
  obtain ⟨a1_', rfl, a1_w⟩ := HasT.int_inv t1 tyK_3
  obtain ⟨a2_', rfl, a2_w⟩ := HasT.int_inv t2 tyK_3
  obtain ⟨a3_', rfl, a3_w⟩ := HasT.int_inv t3 tyK_3
  obtain ⟨a4_', rfl, a4_w⟩ := HasT.int_inv t4 tyK_3
  obtain ⟨a5_', rfl, a5_w⟩ := HasT.int_inv t5 tyK_3
  exact ⟨⟨a0_', a1_', a2_', a3_', a4_', a5_'⟩, rfl, ⟨a0_w, a1_w, a2_w, a3_w, a4_w, a5_w⟩⟩
structure GTables where
  Title : Int
  By : Int
  Release : Int
  Max : Int
  Texts : (List ByteArray)
  Flags : Int
  Props : (List Int)
  Globals : (List Int)
  Things : (List GThing)
  Acts : (List GAct)
  Deeds : (List GDeed)
  Funcs : (List Int)
  Daemons : (List Int)
  Params : (List Int)
  Locals : (List Int)
  deriving DecidableEq
def GTables.enc (x : GTables) : List D := [D.v (.int .i64 x.Title), D.v (.int .i64 x.By), D.v (.int .i64 x.Release), D.v (.int .i64 x.Max), D.sl (encS x.Texts), D.v (.int .i64 x.Flags), D.sl (encI x.Props), D.sl (encI x.Globals), D.sl (x.Things.map GThing.enc), D.sl (x.Acts.map GAct.enc), D.sl (x.Deeds.map GDeed.enc), D.sl (encI x.Funcs), D.sl (encI x.Daemons), D.sl (encI x.Params), D.sl (encI x.Locals)]
@[simp] theorem GTables.enc_length (x : GTables) : x.enc.length = 15 := rfl
@[simp] theorem GTables.enc_0 (x : GTables) : x.enc[0]? = some (D.v (.int .i64 x.Title)) := rfl
@[simp] theorem GTables.encg_0 (x : GTables) (h : 0 < x.enc.length) : x.enc[0] = D.v (.int .i64 x.Title) := rfl
@[simp] theorem GTables.enc_1 (x : GTables) : x.enc[1]? = some (D.v (.int .i64 x.By)) := rfl
@[simp] theorem GTables.encg_1 (x : GTables) (h : 1 < x.enc.length) : x.enc[1] = D.v (.int .i64 x.By) := rfl
@[simp] theorem GTables.enc_2 (x : GTables) : x.enc[2]? = some (D.v (.int .i64 x.Release)) := rfl
@[simp] theorem GTables.encg_2 (x : GTables) (h : 2 < x.enc.length) : x.enc[2] = D.v (.int .i64 x.Release) := rfl
@[simp] theorem GTables.enc_3 (x : GTables) : x.enc[3]? = some (D.v (.int .i64 x.Max)) := rfl
@[simp] theorem GTables.encg_3 (x : GTables) (h : 3 < x.enc.length) : x.enc[3] = D.v (.int .i64 x.Max) := rfl
@[simp] theorem GTables.enc_4 (x : GTables) : x.enc[4]? = some (D.sl (encS x.Texts)) := rfl
@[simp] theorem GTables.encg_4 (x : GTables) (h : 4 < x.enc.length) : x.enc[4] = D.sl (encS x.Texts) := rfl
@[simp] theorem GTables.enc_5 (x : GTables) : x.enc[5]? = some (D.v (.int .i64 x.Flags)) := rfl
@[simp] theorem GTables.encg_5 (x : GTables) (h : 5 < x.enc.length) : x.enc[5] = D.v (.int .i64 x.Flags) := rfl
@[simp] theorem GTables.enc_6 (x : GTables) : x.enc[6]? = some (D.sl (encI x.Props)) := rfl
@[simp] theorem GTables.encg_6 (x : GTables) (h : 6 < x.enc.length) : x.enc[6] = D.sl (encI x.Props) := rfl
@[simp] theorem GTables.enc_7 (x : GTables) : x.enc[7]? = some (D.sl (encI x.Globals)) := rfl
@[simp] theorem GTables.encg_7 (x : GTables) (h : 7 < x.enc.length) : x.enc[7] = D.sl (encI x.Globals) := rfl
@[simp] theorem GTables.enc_8 (x : GTables) : x.enc[8]? = some (D.sl (x.Things.map GThing.enc)) := rfl
@[simp] theorem GTables.encg_8 (x : GTables) (h : 8 < x.enc.length) : x.enc[8] = D.sl (x.Things.map GThing.enc) := rfl
@[simp] theorem GTables.enc_9 (x : GTables) : x.enc[9]? = some (D.sl (x.Acts.map GAct.enc)) := rfl
@[simp] theorem GTables.encg_9 (x : GTables) (h : 9 < x.enc.length) : x.enc[9] = D.sl (x.Acts.map GAct.enc) := rfl
@[simp] theorem GTables.enc_10 (x : GTables) : x.enc[10]? = some (D.sl (x.Deeds.map GDeed.enc)) := rfl
@[simp] theorem GTables.encg_10 (x : GTables) (h : 10 < x.enc.length) : x.enc[10] = D.sl (x.Deeds.map GDeed.enc) := rfl
@[simp] theorem GTables.enc_11 (x : GTables) : x.enc[11]? = some (D.sl (encI x.Funcs)) := rfl
@[simp] theorem GTables.encg_11 (x : GTables) (h : 11 < x.enc.length) : x.enc[11] = D.sl (encI x.Funcs) := rfl
@[simp] theorem GTables.enc_12 (x : GTables) : x.enc[12]? = some (D.sl (encI x.Daemons)) := rfl
@[simp] theorem GTables.encg_12 (x : GTables) (h : 12 < x.enc.length) : x.enc[12] = D.sl (encI x.Daemons) := rfl
@[simp] theorem GTables.enc_13 (x : GTables) : x.enc[13]? = some (D.sl (encI x.Params)) := rfl
@[simp] theorem GTables.encg_13 (x : GTables) (h : 13 < x.enc.length) : x.enc[13] = D.sl (encI x.Params) := rfl
@[simp] theorem GTables.enc_14 (x : GTables) : x.enc[14]? = some (D.sl (encI x.Locals)) := rfl
@[simp] theorem GTables.encg_14 (x : GTables) (h : 14 < x.enc.length) : x.enc[14] = D.sl (encI x.Locals) := rfl
def GTables.zero : GTables := ⟨0, 0, 0, 0, [], 0, [], [], [], [], [], [], [], [], []⟩
theorem GTables.zero_enc : GTables.zero.enc = [D.v (.int .i64 0), D.v (.int .i64 0), D.v (.int .i64 0), D.v (.int .i64 0), D.sl [], D.v (.int .i64 0), D.sl [], D.sl [], D.sl [], D.sl [], D.sl [], D.sl [], D.sl [], D.sl [], D.sl []] := rfl
@[simp] theorem GTables.dropAll (x : GTables) : List.drop 15 x.enc = [] := rfl
@[simp] theorem GTables.dropAllv (x : GTables) : List.drop 15 (x.enc.map V.d) = [] := rfl
@[simp] theorem GTables.enc_all (x : GTables) : x.enc.take 15 = x.enc := rfl
@[simp] theorem GTables.enc_allv (x : GTables) : List.take 15 (x.enc.map V.d) = x.enc.map V.d := rfl
def GTables.wf (x : GTables) : Prop := inR .i64 x.Title ∧ inR .i64 x.By ∧ inR .i64 x.Release ∧ inR .i64 x.Max ∧ x.Texts.length * 16 ≤ 140737488351232 ∧ (∀ y0 : ByteArray, y0 ∈ x.Texts → y0.size ≤ 140737488351232) ∧ inR .i64 x.Flags ∧ x.Props.length * 8 ≤ 140737488351232 ∧ (∀ y0 : Int, y0 ∈ x.Props → inR .i64 y0) ∧ x.Globals.length * 8 ≤ 140737488351232 ∧ (∀ y0 : Int, y0 ∈ x.Globals → inR .i64 y0) ∧ x.Things.length * 136 ≤ 140737488351232 ∧ (∀ y0 : GThing, y0 ∈ x.Things → y0.wf) ∧ x.Acts.length * 32 ≤ 140737488351232 ∧ (∀ y0 : GAct, y0 ∈ x.Acts → y0.wf) ∧ x.Deeds.length * 48 ≤ 140737488351232 ∧ (∀ y0 : GDeed, y0 ∈ x.Deeds → y0.wf) ∧ x.Funcs.length * 8 ≤ 140737488351232 ∧ (∀ y0 : Int, y0 ∈ x.Funcs → inR .i64 y0) ∧ x.Daemons.length * 8 ≤ 140737488351232 ∧ (∀ y0 : Int, y0 ∈ x.Daemons → inR .i64 y0) ∧ x.Params.length * 8 ≤ 140737488351232 ∧ (∀ y0 : Int, y0 ∈ x.Params → inR .i64 y0) ∧ x.Locals.length * 8 ≤ 140737488351232 ∧ (∀ y0 : Int, y0 ∈ x.Locals → inR .i64 y0)
theorem GTables.wl_Texts {x : GTables} (h : x.wf) : x.Texts.length * 16 ≤ 140737488351232 := h.2.2.2.2.1
theorem GTables.wf_Texts {x : GTables} (h : x.wf) : (∀ y0 : ByteArray, y0 ∈ x.Texts → y0.size ≤ 140737488351232) := h.2.2.2.2.2.1
theorem GTables.wl_Props {x : GTables} (h : x.wf) : x.Props.length * 8 ≤ 140737488351232 := h.2.2.2.2.2.2.2.1
theorem GTables.wl_Globals {x : GTables} (h : x.wf) : x.Globals.length * 8 ≤ 140737488351232 := h.2.2.2.2.2.2.2.2.2.1
theorem GTables.wl_Things {x : GTables} (h : x.wf) : x.Things.length * 136 ≤ 140737488351232 := h.2.2.2.2.2.2.2.2.2.2.2.1
theorem GTables.wf_Things {x : GTables} (h : x.wf) : (∀ y0 : GThing, y0 ∈ x.Things → y0.wf) := h.2.2.2.2.2.2.2.2.2.2.2.2.1
theorem GTables.wl_Acts {x : GTables} (h : x.wf) : x.Acts.length * 32 ≤ 140737488351232 := h.2.2.2.2.2.2.2.2.2.2.2.2.2.1
theorem GTables.wf_Acts {x : GTables} (h : x.wf) : (∀ y0 : GAct, y0 ∈ x.Acts → y0.wf) := h.2.2.2.2.2.2.2.2.2.2.2.2.2.2.1
theorem GTables.wl_Deeds {x : GTables} (h : x.wf) : x.Deeds.length * 48 ≤ 140737488351232 := h.2.2.2.2.2.2.2.2.2.2.2.2.2.2.2.1
theorem GTables.wf_Deeds {x : GTables} (h : x.wf) : (∀ y0 : GDeed, y0 ∈ x.Deeds → y0.wf) := h.2.2.2.2.2.2.2.2.2.2.2.2.2.2.2.2.1
theorem GTables.wl_Funcs {x : GTables} (h : x.wf) : x.Funcs.length * 8 ≤ 140737488351232 := h.2.2.2.2.2.2.2.2.2.2.2.2.2.2.2.2.2.1
theorem GTables.wl_Daemons {x : GTables} (h : x.wf) : x.Daemons.length * 8 ≤ 140737488351232 := h.2.2.2.2.2.2.2.2.2.2.2.2.2.2.2.2.2.2.2.1
theorem GTables.wl_Params {x : GTables} (h : x.wf) : x.Params.length * 8 ≤ 140737488351232 := h.2.2.2.2.2.2.2.2.2.2.2.2.2.2.2.2.2.2.2.2.2.1
theorem GTables.wl_Locals {x : GTables} (h : x.wf) : x.Locals.length * 8 ≤ 140737488351232 := h.2.2.2.2.2.2.2.2.2.2.2.2.2.2.2.2.2.2.2.2.2.2.2.1
theorem GTables.wf_Locals {x : GTables} (h : x.wf) : (∀ y0 : Int, y0 ∈ x.Locals → inR .i64 y0) := h.2.2.2.2.2.2.2.2.2.2.2.2.2.2.2.2.2.2.2.2.2.2.2.2
theorem tyK_28 : tyK Tryz.prog 28 = .st [3, 3, 3, 3, 22, 3, 23, 23, 24, 25, 26, 23, 23, 23, 23] := by kernel_rfl
theorem tyK_24 : tyK Tryz.prog 24 = .sl 37 136 := by kernel_rfl
theorem tyK_25 : tyK Tryz.prog 25 = .sl 135 32 := by kernel_rfl
theorem tyK_26 : tyK Tryz.prog 26 = .sl 139 48 := by kernel_rfl
theorem GTables.of {ys : List D} (h : HasT Tryz.prog 28 ys) : ∃ x : GTables, ys = x.enc ∧ x.wf := by
  have h' := HasT.st_inv h tyK_28
  obtain ⟨a0_, r0, hr0, t0, h0⟩ := h'
  obtain ⟨a1_, r1, hr1, t1, h1⟩ := h0
  obtain ⟨a2_, r2, hr2, t2, h2⟩ := h1
  obtain ⟨a3_, r3, hr3, t3, h3⟩ := h2
  obtain ⟨a4_, r4, hr4, t4, h4⟩ := h3
  obtain ⟨a5_, r5, hr5, t5, h5⟩ := h4
  obtain ⟨a6_, r6, hr6, t6, h6⟩ := h5
  obtain ⟨a7_, r7, hr7, t7, h7⟩ := h6
  obtain ⟨a8_, r8, hr8, t8, h8⟩ := h7
  obtain ⟨a9_, r9, hr9, t9, h9⟩ := h8
  obtain ⟨a10_, r10, hr10, t10, h10⟩ := h9
  obtain ⟨a11_, r11, hr11, t11, h11⟩ := h10
  obtain ⟨a12_, r12, hr12, t12, h12⟩ := h11
  obtain ⟨a13_, r13, hr13, t13, h13⟩ := h12
  obtain ⟨a14_, r14, hr14, t14, h14⟩ := h13
  simp only [HasTs] at h14
  subst h14
  subst hr14
  subst hr13
  subst hr12
  subst hr11
  subst hr10
  subst hr9
  subst hr8
  subst hr7
  subst hr6
  subst hr5
  subst hr4
  subst hr3
  subst hr2
  subst hr1
  subst hr0
  obtain ⟨a0_', rfl, a0_w⟩ := HasT.int_inv t0 tyK_3
  obtain ⟨a1_', rfl, a1_w⟩ := HasT.int_inv t1 tyK_3
  obtain ⟨a2_', rfl, a2_w⟩ := HasT.int_inv t2 tyK_3
  obtain ⟨a3_', rfl, a3_w⟩ := HasT.int_inv t3 tyK_3
  obtain ⟨a4_0, rfl, a4_h, a4_l, a4_w⟩ := HasT.sl_inv t4 tyK_22
  obtain ⟨a4_', rfl, a4_a⟩ := map_of (f := (fun y => [D.v (.string y)])) (p := fun (y : ByteArray) => y.size ≤ 140737488351232) (fun a4_e hx => by
    have a4_q := a4_h a4_e hx
    obtain ⟨a4_e', rfl, a4_ew⟩ := HasT.str_inv a4_q tyK_9
    exact ⟨a4_e', rfl, a4_ew⟩)
  obtain ⟨a5_', rfl, a5_w⟩ := HasT.int_inv t5 tyK_3
  obtain ⟨a6_0, rfl, a6_h, a6_l, a6_w⟩ := HasT.sl_inv t6 tyK_23
  obtain ⟨a6_', rfl, a6_a⟩ := map_of (f := (fun y => [D.v (.int .i64 y)])) (p := fun (y : Int) => inR .i64 y) (fun a6_e hx => by
    have a6_q := a6_h a6_e hx
    obtain ⟨a6_e', rfl, a6_ew⟩ := HasT.int_inv a6_q tyK_3
    exact ⟨a6_e', rfl, a6_ew⟩)
  obtain ⟨a7_0, rfl, a7_h, a7_l, a7_w⟩ := HasT.sl_inv t7 tyK_23
  obtain ⟨a7_', rfl, a7_a⟩ := map_of (f := (fun y => [D.v (.int .i64 y)])) (p := fun (y : Int) => inR .i64 y) (fun a7_e hx => by
    have a7_q := a7_h a7_e hx
    obtain ⟨a7_e', rfl, a7_ew⟩ := HasT.int_inv a7_q tyK_3
    exact ⟨a7_e', rfl, a7_ew⟩)
  obtain ⟨a8_0, rfl, a8_h, a8_l, a8_w⟩ := HasT.sl_inv t8 tyK_24
  obtain ⟨a8_', rfl, a8_a⟩ := map_of (f := GThing.enc) (p := fun (y : GThing) => y.wf) (fun a8_e hx => by
    have a8_q := a8_h a8_e hx
    obtain ⟨a8_e', rfl, a8_ew⟩ := GThing.of a8_q
    exact ⟨a8_e', rfl, a8_ew⟩)
  obtain ⟨a9_0, rfl, a9_h, a9_l, a9_w⟩ := HasT.sl_inv t9 tyK_25
  obtain ⟨a9_', rfl, a9_a⟩ := map_of (f := GAct.enc) (p := fun (y : GAct) => y.wf) (fun a9_e hx => by
    have a9_q := a9_h a9_e hx
    obtain ⟨a9_e', rfl, a9_ew⟩ := GAct.of a9_q
    exact ⟨a9_e', rfl, a9_ew⟩)
  obtain ⟨a10_0, rfl, a10_h, a10_l, a10_w⟩ := HasT.sl_inv t10 tyK_26
  obtain ⟨a10_', rfl, a10_a⟩ := map_of (f := GDeed.enc) (p := fun (y : GDeed) => y.wf) (fun a10_e hx => by
    have a10_q := a10_h a10_e hx
    obtain ⟨a10_e', rfl, a10_ew⟩ := GDeed.of a10_q
    exact ⟨a10_e', rfl, a10_ew⟩)
  obtain ⟨a11_0, rfl, a11_h, a11_l, a11_w⟩ := HasT.sl_inv t11 tyK_23
  obtain ⟨a11_', rfl, a11_a⟩ := map_of (f := (fun y => [D.v (.int .i64 y)])) (p := fun (y : Int) => inR .i64 y) (fun a11_e hx => by
    have a11_q := a11_h a11_e hx
    obtain ⟨a11_e', rfl, a11_ew⟩ := HasT.int_inv a11_q tyK_3
    exact ⟨a11_e', rfl, a11_ew⟩)
  obtain ⟨a12_0, rfl, a12_h, a12_l, a12_w⟩ := HasT.sl_inv t12 tyK_23
  obtain ⟨a12_', rfl, a12_a⟩ := map_of (f := (fun y => [D.v (.int .i64 y)])) (p := fun (y : Int) => inR .i64 y) (fun a12_e hx => by
    have a12_q := a12_h a12_e hx
    obtain ⟨a12_e', rfl, a12_ew⟩ := HasT.int_inv a12_q tyK_3
    exact ⟨a12_e', rfl, a12_ew⟩)
  obtain ⟨a13_0, rfl, a13_h, a13_l, a13_w⟩ := HasT.sl_inv t13 tyK_23
  obtain ⟨a13_', rfl, a13_a⟩ := map_of (f := (fun y => [D.v (.int .i64 y)])) (p := fun (y : Int) => inR .i64 y) (fun a13_e hx => by
    have a13_q := a13_h a13_e hx
    obtain ⟨a13_e', rfl, a13_ew⟩ := HasT.int_inv a13_q tyK_3
    exact ⟨a13_e', rfl, a13_ew⟩)
  obtain ⟨a14_0, rfl, a14_h, a14_l, a14_w⟩ := HasT.sl_inv t14 tyK_23
  obtain ⟨a14_', rfl, a14_a⟩ := map_of (f := (fun y => [D.v (.int .i64 y)])) (p := fun (y : Int) => inR .i64 y) (fun a14_e hx => by
    have a14_q := a14_h a14_e hx
    obtain ⟨a14_e', rfl, a14_ew⟩ := HasT.int_inv a14_q tyK_3
    exact ⟨a14_e', rfl, a14_ew⟩)
  exact ⟨⟨a0_', a1_', a2_', a3_', a4_', a5_', a6_', a7_', a8_', a9_', a10_', a11_', a12_', a13_', a14_'⟩, rfl, ⟨a0_w, a1_w, a2_w, a3_w, (by simpa using a4_w), a4_a, a5_w, (by simpa using a6_w), a6_a, (by simpa using a7_w), a7_a, (by simpa using a8_w), a8_a, (by simpa using a9_w), a9_a, (by simpa using a10_w), a10_a, (by simpa using a11_w), a11_a, (by simpa using a12_w), a12_a, (by simpa using a13_w), a13_a, (by simpa using a14_w), a14_a⟩⟩
structure GWorld where
  Globals : (List Int)
  Parent : (List Int)
  Child : (List Int)
  Next : (List Int)
  Flags : (List Int)
  Props : (List Int)
  Timers : (List Int)
  Seed : Int
  Score : Int
  Turns : Int
  Over : Int
  It : Int
  Go : Int
  deriving DecidableEq
def GWorld.enc (x : GWorld) : List D := [D.sl (encI x.Globals), D.sl (encI x.Parent), D.sl (encI x.Child), D.sl (encI x.Next), D.sl (encI x.Flags), D.sl (encI x.Props), D.sl (encI x.Timers), D.v (.int .u64 x.Seed), D.v (.int .i64 x.Score), D.v (.int .i64 x.Turns), D.v (.int .i64 x.Over), D.v (.int .i64 x.It), D.v (.int .i64 x.Go)]
@[simp] theorem GWorld.enc_length (x : GWorld) : x.enc.length = 13 := rfl
@[simp] theorem GWorld.enc_0 (x : GWorld) : x.enc[0]? = some (D.sl (encI x.Globals)) := rfl
@[simp] theorem GWorld.encg_0 (x : GWorld) (h : 0 < x.enc.length) : x.enc[0] = D.sl (encI x.Globals) := rfl
@[simp] theorem GWorld.enc_1 (x : GWorld) : x.enc[1]? = some (D.sl (encI x.Parent)) := rfl
@[simp] theorem GWorld.encg_1 (x : GWorld) (h : 1 < x.enc.length) : x.enc[1] = D.sl (encI x.Parent) := rfl
@[simp] theorem GWorld.enc_2 (x : GWorld) : x.enc[2]? = some (D.sl (encI x.Child)) := rfl
@[simp] theorem GWorld.encg_2 (x : GWorld) (h : 2 < x.enc.length) : x.enc[2] = D.sl (encI x.Child) := rfl
@[simp] theorem GWorld.enc_3 (x : GWorld) : x.enc[3]? = some (D.sl (encI x.Next)) := rfl
@[simp] theorem GWorld.encg_3 (x : GWorld) (h : 3 < x.enc.length) : x.enc[3] = D.sl (encI x.Next) := rfl
@[simp] theorem GWorld.enc_4 (x : GWorld) : x.enc[4]? = some (D.sl (encI x.Flags)) := rfl
@[simp] theorem GWorld.encg_4 (x : GWorld) (h : 4 < x.enc.length) : x.enc[4] = D.sl (encI x.Flags) := rfl
@[simp] theorem GWorld.enc_5 (x : GWorld) : x.enc[5]? = some (D.sl (encI x.Props)) := rfl
@[simp] theorem GWorld.encg_5 (x : GWorld) (h : 5 < x.enc.length) : x.enc[5] = D.sl (encI x.Props) := rfl
@[simp] theorem GWorld.enc_6 (x : GWorld) : x.enc[6]? = some (D.sl (encI x.Timers)) := rfl
@[simp] theorem GWorld.encg_6 (x : GWorld) (h : 6 < x.enc.length) : x.enc[6] = D.sl (encI x.Timers) := rfl
@[simp] theorem GWorld.enc_7 (x : GWorld) : x.enc[7]? = some (D.v (.int .u64 x.Seed)) := rfl
@[simp] theorem GWorld.encg_7 (x : GWorld) (h : 7 < x.enc.length) : x.enc[7] = D.v (.int .u64 x.Seed) := rfl
@[simp] theorem GWorld.enc_8 (x : GWorld) : x.enc[8]? = some (D.v (.int .i64 x.Score)) := rfl
@[simp] theorem GWorld.encg_8 (x : GWorld) (h : 8 < x.enc.length) : x.enc[8] = D.v (.int .i64 x.Score) := rfl
@[simp] theorem GWorld.enc_9 (x : GWorld) : x.enc[9]? = some (D.v (.int .i64 x.Turns)) := rfl
@[simp] theorem GWorld.encg_9 (x : GWorld) (h : 9 < x.enc.length) : x.enc[9] = D.v (.int .i64 x.Turns) := rfl
@[simp] theorem GWorld.enc_10 (x : GWorld) : x.enc[10]? = some (D.v (.int .i64 x.Over)) := rfl
@[simp] theorem GWorld.encg_10 (x : GWorld) (h : 10 < x.enc.length) : x.enc[10] = D.v (.int .i64 x.Over) := rfl
@[simp] theorem GWorld.enc_11 (x : GWorld) : x.enc[11]? = some (D.v (.int .i64 x.It)) := rfl
@[simp] theorem GWorld.encg_11 (x : GWorld) (h : 11 < x.enc.length) : x.enc[11] = D.v (.int .i64 x.It) := rfl
@[simp] theorem GWorld.enc_12 (x : GWorld) : x.enc[12]? = some (D.v (.int .i64 x.Go)) := rfl
@[simp] theorem GWorld.encg_12 (x : GWorld) (h : 12 < x.enc.length) : x.enc[12] = D.v (.int .i64 x.Go) := rfl
def GWorld.zero : GWorld := ⟨[], [], [], [], [], [], [], 0, 0, 0, 0, 0, 0⟩
theorem GWorld.zero_enc : GWorld.zero.enc = [D.sl [], D.sl [], D.sl [], D.sl [], D.sl [], D.sl [], D.sl [], D.v (.int .u64 0), D.v (.int .i64 0), D.v (.int .i64 0), D.v (.int .i64 0), D.v (.int .i64 0), D.v (.int .i64 0)] := rfl
@[simp] theorem GWorld.dropAll (x : GWorld) : List.drop 13 x.enc = [] := rfl
@[simp] theorem GWorld.dropAllv (x : GWorld) : List.drop 13 (x.enc.map V.d) = [] := rfl
@[simp] theorem GWorld.enc_all (x : GWorld) : x.enc.take 13 = x.enc := rfl
@[simp] theorem GWorld.enc_allv (x : GWorld) : List.take 13 (x.enc.map V.d) = x.enc.map V.d := rfl
def GWorld.wf (x : GWorld) : Prop := x.Globals.length * 8 ≤ 140737488351232 ∧ (∀ y0 : Int, y0 ∈ x.Globals → inR .i64 y0) ∧ x.Parent.length * 8 ≤ 140737488351232 ∧ (∀ y0 : Int, y0 ∈ x.Parent → inR .i64 y0) ∧ x.Child.length * 8 ≤ 140737488351232 ∧ (∀ y0 : Int, y0 ∈ x.Child → inR .i64 y0) ∧ x.Next.length * 8 ≤ 140737488351232 ∧ (∀ y0 : Int, y0 ∈ x.Next → inR .i64 y0) ∧ x.Flags.length * 8 ≤ 140737488351232 ∧ (∀ y0 : Int, y0 ∈ x.Flags → inR .i64 y0) ∧ x.Props.length * 8 ≤ 140737488351232 ∧ (∀ y0 : Int, y0 ∈ x.Props → inR .i64 y0) ∧ x.Timers.length * 8 ≤ 140737488351232 ∧ (∀ y0 : Int, y0 ∈ x.Timers → inR .i64 y0) ∧ inR .u64 x.Seed ∧ inR .i64 x.Score ∧ inR .i64 x.Turns ∧ inR .i64 x.Over ∧ inR .i64 x.It ∧ inR .i64 x.Go
theorem GWorld.wl_Globals {x : GWorld} (h : x.wf) : x.Globals.length * 8 ≤ 140737488351232 := h.1
theorem GWorld.wl_Parent {x : GWorld} (h : x.wf) : x.Parent.length * 8 ≤ 140737488351232 := h.2.2.1
theorem GWorld.wl_Flags {x : GWorld} (h : x.wf) : x.Flags.length * 8 ≤ 140737488351232 := h.2.2.2.2.2.2.2.2.1
theorem GWorld.wl_Props {x : GWorld} (h : x.wf) : x.Props.length * 8 ≤ 140737488351232 := h.2.2.2.2.2.2.2.2.2.2.1
theorem GWorld.wl_Timers {x : GWorld} (h : x.wf) : x.Timers.length * 8 ≤ 140737488351232 := h.2.2.2.2.2.2.2.2.2.2.2.2.1
theorem tyK_31 : tyK Tryz.prog 31 = .st [23, 23, 23, 23, 23, 23, 23, 29, 3, 3, 3, 3, 3] := by kernel_rfl
theorem tyK_29 : tyK Tryz.prog 29 = .int .u64 := by kernel_rfl
theorem GWorld.of {ys : List D} (h : HasT Tryz.prog 31 ys) : ∃ x : GWorld, ys = x.enc ∧ x.wf := by
  have h' := HasT.st_inv h tyK_31
  obtain ⟨a0_, r0, hr0, t0, h0⟩ := h'
  obtain ⟨a1_, r1, hr1, t1, h1⟩ := h0
  obtain ⟨a2_, r2, hr2, t2, h2⟩ := h1
  obtain ⟨a3_, r3, hr3, t3, h3⟩ := h2
  obtain ⟨a4_, r4, hr4, t4, h4⟩ := h3
  obtain ⟨a5_, r5, hr5, t5, h5⟩ := h4
  obtain ⟨a6_, r6, hr6, t6, h6⟩ := h5
  obtain ⟨a7_, r7, hr7, t7, h7⟩ := h6
  obtain ⟨a8_, r8, hr8, t8, h8⟩ := h7
  obtain ⟨a9_, r9, hr9, t9, h9⟩ := h8
  obtain ⟨a10_, r10, hr10, t10, h10⟩ := h9
  obtain ⟨a11_, r11, hr11, t11, h11⟩ := h10
  obtain ⟨a12_, r12, hr12, t12, h12⟩ := h11
  simp only [HasTs] at h12
  subst h12
  subst hr12
  subst hr11
  subst hr10
  subst hr9
  subst hr8
  subst hr7
  subst hr6
  subst hr5
  subst hr4
  subst hr3
  subst hr2
  subst hr1
  subst hr0
  obtain ⟨a0_0, rfl, a0_h, a0_l, a0_w⟩ := HasT.sl_inv t0 tyK_23
  obtain ⟨a0_', rfl, a0_a⟩ := map_of (f := (fun y => [D.v (.int .i64 y)])) (p := fun (y : Int) => inR .i64 y) (fun a0_e hx => by
    have a0_q := a0_h a0_e hx
    obtain ⟨a0_e', rfl, a0_ew⟩ := HasT.int_inv a0_q tyK_3
    exact ⟨a0_e', rfl, a0_ew⟩)
  obtain ⟨a1_0, rfl, a1_h, a1_l, a1_w⟩ := HasT.sl_inv t1 tyK_23
  obtain ⟨a1_', rfl, a1_a⟩ := map_of (f := (fun y => [D.v (.int .i64 y)])) (p := fun (y : Int) => inR .i64 y) (fun a1_e hx => by
    have a1_q := a1_h a1_e hx
    obtain ⟨a1_e', rfl, a1_ew⟩ := HasT.int_inv a1_q tyK_3
    exact ⟨a1_e', rfl, a1_ew⟩)
  obtain ⟨a2_0, rfl, a2_h, a2_l, a2_w⟩ := HasT.sl_inv t2 tyK_23
  obtain ⟨a2_', rfl, a2_a⟩ := map_of (f := (fun y => [D.v (.int .i64 y)])) (p := fun (y : Int) => inR .i64 y) (fun a2_e hx => by
    have a2_q := a2_h a2_e hx
    obtain ⟨a2_e', rfl, a2_ew⟩ := HasT.int_inv a2_q tyK_3
    exact ⟨a2_e', rfl, a2_ew⟩)
  obtain ⟨a3_0, rfl, a3_h, a3_l, a3_w⟩ := HasT.sl_inv t3 tyK_23
  obtain ⟨a3_', rfl, a3_a⟩ := map_of (f := (fun y => [D.v (.int .i64 y)])) (p := fun (y : Int) => inR .i64 y) (fun a3_e hx => by
    have a3_q := a3_h a3_e hx
    obtain ⟨a3_e', rfl, a3_ew⟩ := HasT.int_inv a3_q tyK_3
    exact ⟨a3_e', rfl, a3_ew⟩)
  obtain ⟨a4_0, rfl, a4_h, a4_l, a4_w⟩ := HasT.sl_inv t4 tyK_23
  obtain ⟨a4_', rfl, a4_a⟩ := map_of (f := (fun y => [D.v (.int .i64 y)])) (p := fun (y : Int) => inR .i64 y) (fun a4_e hx => by
    have a4_q := a4_h a4_e hx
    obtain ⟨a4_e', rfl, a4_ew⟩ := HasT.int_inv a4_q tyK_3
    exact ⟨a4_e', rfl, a4_ew⟩)
  obtain ⟨a5_0, rfl, a5_h, a5_l, a5_w⟩ := HasT.sl_inv t5 tyK_23
  obtain ⟨a5_', rfl, a5_a⟩ := map_of (f := (fun y => [D.v (.int .i64 y)])) (p := fun (y : Int) => inR .i64 y) (fun a5_e hx => by
    have a5_q := a5_h a5_e hx
    obtain ⟨a5_e', rfl, a5_ew⟩ := HasT.int_inv a5_q tyK_3
    exact ⟨a5_e', rfl, a5_ew⟩)
  obtain ⟨a6_0, rfl, a6_h, a6_l, a6_w⟩ := HasT.sl_inv t6 tyK_23
  obtain ⟨a6_', rfl, a6_a⟩ := map_of (f := (fun y => [D.v (.int .i64 y)])) (p := fun (y : Int) => inR .i64 y) (fun a6_e hx => by
    have a6_q := a6_h a6_e hx
    obtain ⟨a6_e', rfl, a6_ew⟩ := HasT.int_inv a6_q tyK_3
    exact ⟨a6_e', rfl, a6_ew⟩)
  obtain ⟨a7_', rfl, a7_w⟩ := HasT.int_inv t7 tyK_29
  obtain ⟨a8_', rfl, a8_w⟩ := HasT.int_inv t8 tyK_3
  obtain ⟨a9_', rfl, a9_w⟩ := HasT.int_inv t9 tyK_3
  obtain ⟨a10_', rfl, a10_w⟩ := HasT.int_inv t10 tyK_3
  obtain ⟨a11_', rfl, a11_w⟩ := HasT.int_inv t11 tyK_3
  obtain ⟨a12_', rfl, a12_w⟩ := HasT.int_inv t12 tyK_3
  exact ⟨⟨a0_', a1_', a2_', a3_', a4_', a5_', a6_', a7_', a8_', a9_', a10_', a11_', a12_'⟩, rfl, ⟨(by simpa using a0_w), a0_a, (by simpa using a1_w), a1_a, (by simpa using a2_w), a2_a, (by simpa using a3_w), a3_a, (by simpa using a4_w), a4_a, (by simpa using a5_w), a5_a, (by simpa using a6_w), a6_a, a7_w, a8_w, a9_w, a10_w, a11_w, a12_w⟩⟩
inductive GExpr where
  | mk (Kind : Int) (Op : Int) (Num : Int) (Name : ByteArray) (Args : (List GExpr))
def GExpr.Kind : GExpr → Int
  | .mk a0 a1 a2 a3 a4 => a0
def GExpr.Op : GExpr → Int
  | .mk a0 a1 a2 a3 a4 => a1
def GExpr.Num : GExpr → Int
  | .mk a0 a1 a2 a3 a4 => a2
def GExpr.Name : GExpr → ByteArray
  | .mk a0 a1 a2 a3 a4 => a3
def GExpr.Args : GExpr → (List GExpr)
  | .mk a0 a1 a2 a3 a4 => a4
mutual
def GExpr.enc : GExpr → List D
  | .mk a0 a1 a2 a3 a4 => [D.v (.int .i64 a0), D.v (.int .i64 a1), D.v (.int .i64 a2), D.v (.string a3), D.sl (GExpr.encs a4)]
def GExpr.encs : List GExpr → List (List D)
  | [] => []
  | x :: l => x.enc :: GExpr.encs l
end
theorem GExpr.encs_eq : ∀ l : List GExpr, GExpr.encs l = l.map GExpr.enc
  | [] => rfl
  | x :: l => by rw [GExpr.encs, GExpr.encs_eq l]; rfl
theorem GExpr.enc_eq (x : GExpr) : x.enc = [D.v (.int .i64 x.Kind), D.v (.int .i64 x.Op), D.v (.int .i64 x.Num), D.v (.string x.Name), D.sl (x.Args.map GExpr.enc)] := by
  cases x
  simp only [GExpr.enc, GExpr.encs_eq]
  rfl
@[simp] theorem GExpr.enc_length (x : GExpr) : x.enc.length = 5 := by cases x; rfl
@[simp] theorem GExpr.enc_0 (x : GExpr) : x.enc[0]? = some (D.v (.int .i64 x.Kind)) := by rw [GExpr.enc_eq]; rfl
@[simp] theorem GExpr.encg_0 (x : GExpr) (h : 0 < x.enc.length) : x.enc[0] = D.v (.int .i64 x.Kind) := by
  have := GExpr.enc_0 x
  rw [List.getElem?_eq_getElem h] at this
  exact Option.some.inj this
@[simp] theorem GExpr.enc_1 (x : GExpr) : x.enc[1]? = some (D.v (.int .i64 x.Op)) := by rw [GExpr.enc_eq]; rfl
@[simp] theorem GExpr.encg_1 (x : GExpr) (h : 1 < x.enc.length) : x.enc[1] = D.v (.int .i64 x.Op) := by
  have := GExpr.enc_1 x
  rw [List.getElem?_eq_getElem h] at this
  exact Option.some.inj this
@[simp] theorem GExpr.enc_2 (x : GExpr) : x.enc[2]? = some (D.v (.int .i64 x.Num)) := by rw [GExpr.enc_eq]; rfl
@[simp] theorem GExpr.encg_2 (x : GExpr) (h : 2 < x.enc.length) : x.enc[2] = D.v (.int .i64 x.Num) := by
  have := GExpr.enc_2 x
  rw [List.getElem?_eq_getElem h] at this
  exact Option.some.inj this
@[simp] theorem GExpr.enc_3 (x : GExpr) : x.enc[3]? = some (D.v (.string x.Name)) := by rw [GExpr.enc_eq]; rfl
@[simp] theorem GExpr.encg_3 (x : GExpr) (h : 3 < x.enc.length) : x.enc[3] = D.v (.string x.Name) := by
  have := GExpr.enc_3 x
  rw [List.getElem?_eq_getElem h] at this
  exact Option.some.inj this
@[simp] theorem GExpr.enc_4 (x : GExpr) : x.enc[4]? = some (D.sl (x.Args.map GExpr.enc)) := by rw [GExpr.enc_eq]; rfl
@[simp] theorem GExpr.encg_4 (x : GExpr) (h : 4 < x.enc.length) : x.enc[4] = D.sl (x.Args.map GExpr.enc) := by
  have := GExpr.enc_4 x
  rw [List.getElem?_eq_getElem h] at this
  exact Option.some.inj this
def GExpr.zero : GExpr := .mk (0) (0) (0) (⟨#[]⟩) ([])
theorem GExpr.zero_enc : GExpr.zero.enc = [D.v (.int .i64 0), D.v (.int .i64 0), D.v (.int .i64 0), D.v (.string ⟨#[]⟩), D.sl []] := rfl
@[simp] theorem GExpr.getZ (o : Option GExpr) : (o.map GExpr.enc).getD [D.v (.int .i64 0), D.v (.int .i64 0), D.v (.int .i64 0), D.v (.string ⟨#[]⟩), D.sl []] = (o.getD GExpr.zero).enc := by cases o <;> rfl
@[simp] theorem GExpr.dropAllv (x : GExpr) : List.drop 5 (x.enc.map V.d) = [] := by cases x; rfl
@[simp] theorem GExpr.enc_all (x : GExpr) : x.enc.take 5 = x.enc := by cases x; rfl
@[simp] theorem GExpr.enc_allv (x : GExpr) : List.take 5 (x.enc.map V.d) = x.enc.map V.d := by cases x; rfl
mutual
def GExpr.wf : GExpr → Prop
  | .mk a0 a1 a2 a3 a4 => inR .i64 a0 ∧ inR .i64 a1 ∧ inR .i64 a2 ∧ a3.size ≤ 140737488351232 ∧ a4.length * 64 ≤ 140737488351232 ∧ GExpr.wfs a4
def GExpr.wfs : List GExpr → Prop
  | [] => True
  | x :: l => x.wf ∧ GExpr.wfs l
end
theorem GExpr.wfs_iff : ∀ l : List GExpr, GExpr.wfs l ↔ ∀ y ∈ l, y.wf
  | [] => by simp [GExpr.wfs]
  | x :: l => by rw [GExpr.wfs, GExpr.wfs_iff l]; simp
theorem GExpr.wf_iff (x : GExpr) : x.wf ↔ inR .i64 x.Kind ∧ inR .i64 x.Op ∧ inR .i64 x.Num ∧ x.Name.size ≤ 140737488351232 ∧ x.Args.length * 64 ≤ 140737488351232 ∧ (∀ y0 : GExpr, y0 ∈ x.Args → y0.wf) := by
  cases x
  simp only [GExpr.wf, GExpr.wfs_iff]
  rfl
theorem GExpr.wf_Args {x : GExpr} (h : x.wf) : (∀ y0 : GExpr, y0 ∈ x.Args → y0.wf) := ((GExpr.wf_iff x).1 h).2.2.2.2.2
theorem tyK_40 : tyK Tryz.prog 40 = .st [3, 3, 3, 9, 38] := by kernel_rfl
theorem tyK_38 : tyK Tryz.prog 38 = .sl 40 64 := by kernel_rfl
theorem GExpr.of' : ∀ (n : Nat) {ys : List D}, SizeOf.sizeOf ys < n → HasT Tryz.prog 40 ys → ∃ x : GExpr, ys = x.enc ∧ x.wf := by
  intro n
  induction n with
  | zero => intro ys h; omega
  | succ n ih =>
  intro ys hsz h
  have h' := HasT.st_inv h tyK_40
  obtain ⟨a0_, r0, hr0, t0, h0⟩ := h'
  obtain ⟨a1_, r1, hr1, t1, h1⟩ := h0
  obtain ⟨a2_, r2, hr2, t2, h2⟩ := h1
  obtain ⟨a3_, r3, hr3, t3, h3⟩ := h2
  obtain ⟨a4_, r4, hr4, t4, h4⟩ := h3
  simp only [HasTs] at h4
  subst h4
  subst hr4
  subst hr3
  subst hr2
  subst hr1
  subst hr0
  obtain ⟨a0_', rfl, a0_w⟩ := HasT.int_inv t0 tyK_3
  obtain ⟨a1_', rfl, a1_w⟩ := HasT.int_inv t1 tyK_3
  obtain ⟨a2_', rfl, a2_w⟩ := HasT.int_inv t2 tyK_3
  obtain ⟨a3_', rfl, a3_w⟩ := HasT.str_inv t3 tyK_9
  obtain ⟨a4_0, rfl, a4_h, a4_l, a4_w⟩ := HasT.sl_inv t4 tyK_38
  obtain ⟨a4_', rfl, a4_a⟩ := map_of (f := GExpr.enc) (p := GExpr.wf) (fun a4_e hx => ih (by have hlt := List.sizeOf_lt_of_mem hx; simp at hsz; omega) (a4_h a4_e hx))
  exact ⟨.mk a0_' a1_' a2_' a3_' a4_', by rw [GExpr.enc_eq]; rfl, by rw [GExpr.wf]; exact ⟨a0_w, a1_w, a2_w, a3_w, (by simpa using a4_w), (GExpr.wfs_iff _).2 a4_a⟩⟩
theorem GExpr.of {ys : List D} (h : HasT Tryz.prog 40 ys) : ∃ x : GExpr, ys = x.enc ∧ x.wf := GExpr.of' _ (Nat.lt_succ_self _) h
inductive GStmt where
  | mk (Kind : Int) (Num : Int) (Name : ByteArray) (Args : (List GExpr)) (Body : (List GStmt)) (Else : (List GStmt))
def GStmt.Kind : GStmt → Int
  | .mk a0 a1 a2 a3 a4 a5 => a0
def GStmt.Num : GStmt → Int
  | .mk a0 a1 a2 a3 a4 a5 => a1
def GStmt.Name : GStmt → ByteArray
  | .mk a0 a1 a2 a3 a4 a5 => a2
def GStmt.Args : GStmt → (List GExpr)
  | .mk a0 a1 a2 a3 a4 a5 => a3
def GStmt.Body : GStmt → (List GStmt)
  | .mk a0 a1 a2 a3 a4 a5 => a4
def GStmt.Else : GStmt → (List GStmt)
  | .mk a0 a1 a2 a3 a4 a5 => a5
mutual
def GStmt.enc : GStmt → List D
  | .mk a0 a1 a2 a3 a4 a5 => [D.v (.int .i64 a0), D.v (.int .i64 a1), D.v (.string a2), D.sl (a3.map GExpr.enc), D.sl (GStmt.encs a4), D.sl (GStmt.encs a5)]
def GStmt.encs : List GStmt → List (List D)
  | [] => []
  | x :: l => x.enc :: GStmt.encs l
end
theorem GStmt.encs_eq : ∀ l : List GStmt, GStmt.encs l = l.map GStmt.enc
  | [] => rfl
  | x :: l => by rw [GStmt.encs, GStmt.encs_eq l]; rfl
theorem GStmt.enc_eq (x : GStmt) : x.enc = [D.v (.int .i64 x.Kind), D.v (.int .i64 x.Num), D.v (.string x.Name), D.sl (x.Args.map GExpr.enc), D.sl (x.Body.map GStmt.enc), D.sl (x.Else.map GStmt.enc)] := by
  cases x
  simp only [GStmt.enc, GStmt.encs_eq]
  rfl
@[simp] theorem GStmt.enc_length (x : GStmt) : x.enc.length = 6 := by cases x; rfl
@[simp] theorem GStmt.enc_0 (x : GStmt) : x.enc[0]? = some (D.v (.int .i64 x.Kind)) := by rw [GStmt.enc_eq]; rfl
@[simp] theorem GStmt.encg_0 (x : GStmt) (h : 0 < x.enc.length) : x.enc[0] = D.v (.int .i64 x.Kind) := by
  have := GStmt.enc_0 x
  rw [List.getElem?_eq_getElem h] at this
  exact Option.some.inj this
@[simp] theorem GStmt.enc_1 (x : GStmt) : x.enc[1]? = some (D.v (.int .i64 x.Num)) := by rw [GStmt.enc_eq]; rfl
@[simp] theorem GStmt.encg_1 (x : GStmt) (h : 1 < x.enc.length) : x.enc[1] = D.v (.int .i64 x.Num) := by
  have := GStmt.enc_1 x
  rw [List.getElem?_eq_getElem h] at this
  exact Option.some.inj this
@[simp] theorem GStmt.enc_2 (x : GStmt) : x.enc[2]? = some (D.v (.string x.Name)) := by rw [GStmt.enc_eq]; rfl
@[simp] theorem GStmt.encg_2 (x : GStmt) (h : 2 < x.enc.length) : x.enc[2] = D.v (.string x.Name) := by
  have := GStmt.enc_2 x
  rw [List.getElem?_eq_getElem h] at this
  exact Option.some.inj this
@[simp] theorem GStmt.enc_3 (x : GStmt) : x.enc[3]? = some (D.sl (x.Args.map GExpr.enc)) := by rw [GStmt.enc_eq]; rfl
@[simp] theorem GStmt.encg_3 (x : GStmt) (h : 3 < x.enc.length) : x.enc[3] = D.sl (x.Args.map GExpr.enc) := by
  have := GStmt.enc_3 x
  rw [List.getElem?_eq_getElem h] at this
  exact Option.some.inj this
@[simp] theorem GStmt.enc_4 (x : GStmt) : x.enc[4]? = some (D.sl (x.Body.map GStmt.enc)) := by rw [GStmt.enc_eq]; rfl
@[simp] theorem GStmt.encg_4 (x : GStmt) (h : 4 < x.enc.length) : x.enc[4] = D.sl (x.Body.map GStmt.enc) := by
  have := GStmt.enc_4 x
  rw [List.getElem?_eq_getElem h] at this
  exact Option.some.inj this
@[simp] theorem GStmt.enc_5 (x : GStmt) : x.enc[5]? = some (D.sl (x.Else.map GStmt.enc)) := by rw [GStmt.enc_eq]; rfl
@[simp] theorem GStmt.encg_5 (x : GStmt) (h : 5 < x.enc.length) : x.enc[5] = D.sl (x.Else.map GStmt.enc) := by
  have := GStmt.enc_5 x
  rw [List.getElem?_eq_getElem h] at this
  exact Option.some.inj this
def GStmt.zero : GStmt := .mk (0) (0) (⟨#[]⟩) ([]) ([]) ([])
theorem GStmt.zero_enc : GStmt.zero.enc = [D.v (.int .i64 0), D.v (.int .i64 0), D.v (.string ⟨#[]⟩), D.sl [], D.sl [], D.sl []] := rfl
@[simp] theorem GStmt.enc_all (x : GStmt) : x.enc.take 6 = x.enc := by cases x; rfl
@[simp] theorem GStmt.enc_allv (x : GStmt) : List.take 6 (x.enc.map V.d) = x.enc.map V.d := by cases x; rfl
mutual
def GStmt.wf : GStmt → Prop
  | .mk a0 a1 a2 a3 a4 a5 => inR .i64 a0 ∧ inR .i64 a1 ∧ a2.size ≤ 140737488351232 ∧ a3.length * 64 ≤ 140737488351232 ∧ (∀ y0 : GExpr, y0 ∈ a3 → y0.wf) ∧ a4.length * 104 ≤ 140737488351232 ∧ GStmt.wfs a4 ∧ a5.length * 104 ≤ 140737488351232 ∧ GStmt.wfs a5
def GStmt.wfs : List GStmt → Prop
  | [] => True
  | x :: l => x.wf ∧ GStmt.wfs l
end
theorem GStmt.wfs_iff : ∀ l : List GStmt, GStmt.wfs l ↔ ∀ y ∈ l, y.wf
  | [] => by simp [GStmt.wfs]
  | x :: l => by rw [GStmt.wfs, GStmt.wfs_iff l]; simp
theorem GStmt.wf_iff (x : GStmt) : x.wf ↔ inR .i64 x.Kind ∧ inR .i64 x.Num ∧ x.Name.size ≤ 140737488351232 ∧ x.Args.length * 64 ≤ 140737488351232 ∧ (∀ y0 : GExpr, y0 ∈ x.Args → y0.wf) ∧ x.Body.length * 104 ≤ 140737488351232 ∧ (∀ y0 : GStmt, y0 ∈ x.Body → y0.wf) ∧ x.Else.length * 104 ≤ 140737488351232 ∧ (∀ y0 : GStmt, y0 ∈ x.Else → y0.wf) := by
  cases x
  simp only [GStmt.wf, GStmt.wfs_iff]
  rfl
theorem GStmt.wl_Args {x : GStmt} (h : x.wf) : x.Args.length * 64 ≤ 140737488351232 := ((GStmt.wf_iff x).1 h).2.2.2.1
theorem GStmt.wf_Args {x : GStmt} (h : x.wf) : (∀ y0 : GExpr, y0 ∈ x.Args → y0.wf) := ((GStmt.wf_iff x).1 h).2.2.2.2.1
theorem GStmt.wl_Body {x : GStmt} (h : x.wf) : x.Body.length * 104 ≤ 140737488351232 := ((GStmt.wf_iff x).1 h).2.2.2.2.2.1
theorem GStmt.wf_Body {x : GStmt} (h : x.wf) : (∀ y0 : GStmt, y0 ∈ x.Body → y0.wf) := ((GStmt.wf_iff x).1 h).2.2.2.2.2.2.1
theorem GStmt.wl_Else {x : GStmt} (h : x.wf) : x.Else.length * 104 ≤ 140737488351232 := ((GStmt.wf_iff x).1 h).2.2.2.2.2.2.2.1
theorem GStmt.wf_Else {x : GStmt} (h : x.wf) : (∀ y0 : GStmt, y0 ∈ x.Else → y0.wf) := ((GStmt.wf_iff x).1 h).2.2.2.2.2.2.2.2
theorem tyK_43 : tyK Tryz.prog 43 = .st [3, 3, 9, 38, 41, 41] := by kernel_rfl
theorem tyK_41 : tyK Tryz.prog 41 = .sl 43 104 := by kernel_rfl
theorem GStmt.of' : ∀ (n : Nat) {ys : List D}, SizeOf.sizeOf ys < n → HasT Tryz.prog 43 ys → ∃ x : GStmt, ys = x.enc ∧ x.wf := by
  intro n
  induction n with
  | zero => intro ys h; omega
  | succ n ih =>
  intro ys hsz h
  have h' := HasT.st_inv h tyK_43
  obtain ⟨a0_, r0, hr0, t0, h0⟩ := h'
  obtain ⟨a1_, r1, hr1, t1, h1⟩ := h0
  obtain ⟨a2_, r2, hr2, t2, h2⟩ := h1
  obtain ⟨a3_, r3, hr3, t3, h3⟩ := h2
  obtain ⟨a4_, r4, hr4, t4, h4⟩ := h3
  obtain ⟨a5_, r5, hr5, t5, h5⟩ := h4
  simp only [HasTs] at h5
  subst h5
  subst hr5
  subst hr4
  subst hr3
  subst hr2
  subst hr1
  subst hr0
  obtain ⟨a0_', rfl, a0_w⟩ := HasT.int_inv t0 tyK_3
  obtain ⟨a1_', rfl, a1_w⟩ := HasT.int_inv t1 tyK_3
  obtain ⟨a2_', rfl, a2_w⟩ := HasT.str_inv t2 tyK_9
  obtain ⟨a3_0, rfl, a3_h, a3_l, a3_w⟩ := HasT.sl_inv t3 tyK_38
  obtain ⟨a3_', rfl, a3_a⟩ := map_of (f := GExpr.enc) (p := fun (y : GExpr) => y.wf) (fun a3_e hx => by
    have a3_q := a3_h a3_e hx
    obtain ⟨a3_e', rfl, a3_ew⟩ := GExpr.of a3_q
    exact ⟨a3_e', rfl, a3_ew⟩)
  obtain ⟨a4_0, rfl, a4_h, a4_l, a4_w⟩ := HasT.sl_inv t4 tyK_41
  obtain ⟨a4_', rfl, a4_a⟩ := map_of (f := GStmt.enc) (p := GStmt.wf) (fun a4_e hx => ih (by have hlt := List.sizeOf_lt_of_mem hx; simp at hsz; omega) (a4_h a4_e hx))
  obtain ⟨a5_0, rfl, a5_h, a5_l, a5_w⟩ := HasT.sl_inv t5 tyK_41
  obtain ⟨a5_', rfl, a5_a⟩ := map_of (f := GStmt.enc) (p := GStmt.wf) (fun a5_e hx => ih (by have hlt := List.sizeOf_lt_of_mem hx; simp at hsz; omega) (a5_h a5_e hx))
  exact ⟨.mk a0_' a1_' a2_' a3_' a4_' a5_', by rw [GStmt.enc_eq]; rfl, by rw [GStmt.wf]; exact ⟨a0_w, a1_w, a2_w, (by simpa using a3_w), a3_a, (by simpa using a4_w), (GStmt.wfs_iff _).2 a4_a, (by simpa using a5_w), (GStmt.wfs_iff _).2 a5_a⟩⟩
theorem GStmt.of {ys : List D} (h : HasT Tryz.prog 43 ys) : ∃ x : GStmt, ys = x.enc ∧ x.wf := GStmt.of' _ (Nat.lt_succ_self _) h
structure GBook where
  Tables : GTables
  Routines : (List (List GStmt))
def GBook.enc (x : GBook) : List D := [D.v (.int .i64 x.Tables.Title), D.v (.int .i64 x.Tables.By), D.v (.int .i64 x.Tables.Release), D.v (.int .i64 x.Tables.Max), D.sl (encS x.Tables.Texts), D.v (.int .i64 x.Tables.Flags), D.sl (encI x.Tables.Props), D.sl (encI x.Tables.Globals), D.sl (x.Tables.Things.map GThing.enc), D.sl (x.Tables.Acts.map GAct.enc), D.sl (x.Tables.Deeds.map GDeed.enc), D.sl (encI x.Tables.Funcs), D.sl (encI x.Tables.Daemons), D.sl (encI x.Tables.Params), D.sl (encI x.Tables.Locals), D.sl (encSl (List.map GStmt.enc) x.Routines)]
@[simp] theorem GBook.enc_length (x : GBook) : x.enc.length = 16 := rfl
@[simp] theorem GBook.enc_0 (x : GBook) : x.enc[0]? = some (D.v (.int .i64 x.Tables.Title)) := rfl
@[simp] theorem GBook.encg_0 (x : GBook) (h : 0 < x.enc.length) : x.enc[0] = D.v (.int .i64 x.Tables.Title) := rfl
@[simp] theorem GBook.enc_1 (x : GBook) : x.enc[1]? = some (D.v (.int .i64 x.Tables.By)) := rfl
@[simp] theorem GBook.encg_1 (x : GBook) (h : 1 < x.enc.length) : x.enc[1] = D.v (.int .i64 x.Tables.By) := rfl
@[simp] theorem GBook.enc_2 (x : GBook) : x.enc[2]? = some (D.v (.int .i64 x.Tables.Release)) := rfl
@[simp] theorem GBook.encg_2 (x : GBook) (h : 2 < x.enc.length) : x.enc[2] = D.v (.int .i64 x.Tables.Release) := rfl
@[simp] theorem GBook.enc_3 (x : GBook) : x.enc[3]? = some (D.v (.int .i64 x.Tables.Max)) := rfl
@[simp] theorem GBook.encg_3 (x : GBook) (h : 3 < x.enc.length) : x.enc[3] = D.v (.int .i64 x.Tables.Max) := rfl
@[simp] theorem GBook.enc_4 (x : GBook) : x.enc[4]? = some (D.sl (encS x.Tables.Texts)) := rfl
@[simp] theorem GBook.encg_4 (x : GBook) (h : 4 < x.enc.length) : x.enc[4] = D.sl (encS x.Tables.Texts) := rfl
@[simp] theorem GBook.enc_5 (x : GBook) : x.enc[5]? = some (D.v (.int .i64 x.Tables.Flags)) := rfl
@[simp] theorem GBook.encg_5 (x : GBook) (h : 5 < x.enc.length) : x.enc[5] = D.v (.int .i64 x.Tables.Flags) := rfl
@[simp] theorem GBook.enc_6 (x : GBook) : x.enc[6]? = some (D.sl (encI x.Tables.Props)) := rfl
@[simp] theorem GBook.encg_6 (x : GBook) (h : 6 < x.enc.length) : x.enc[6] = D.sl (encI x.Tables.Props) := rfl
@[simp] theorem GBook.enc_7 (x : GBook) : x.enc[7]? = some (D.sl (encI x.Tables.Globals)) := rfl
@[simp] theorem GBook.encg_7 (x : GBook) (h : 7 < x.enc.length) : x.enc[7] = D.sl (encI x.Tables.Globals) := rfl
@[simp] theorem GBook.enc_8 (x : GBook) : x.enc[8]? = some (D.sl (x.Tables.Things.map GThing.enc)) := rfl
@[simp] theorem GBook.encg_8 (x : GBook) (h : 8 < x.enc.length) : x.enc[8] = D.sl (x.Tables.Things.map GThing.enc) := rfl
@[simp] theorem GBook.enc_9 (x : GBook) : x.enc[9]? = some (D.sl (x.Tables.Acts.map GAct.enc)) := rfl
@[simp] theorem GBook.encg_9 (x : GBook) (h : 9 < x.enc.length) : x.enc[9] = D.sl (x.Tables.Acts.map GAct.enc) := rfl
@[simp] theorem GBook.enc_10 (x : GBook) : x.enc[10]? = some (D.sl (x.Tables.Deeds.map GDeed.enc)) := rfl
@[simp] theorem GBook.encg_10 (x : GBook) (h : 10 < x.enc.length) : x.enc[10] = D.sl (x.Tables.Deeds.map GDeed.enc) := rfl
@[simp] theorem GBook.enc_11 (x : GBook) : x.enc[11]? = some (D.sl (encI x.Tables.Funcs)) := rfl
@[simp] theorem GBook.encg_11 (x : GBook) (h : 11 < x.enc.length) : x.enc[11] = D.sl (encI x.Tables.Funcs) := rfl
@[simp] theorem GBook.enc_12 (x : GBook) : x.enc[12]? = some (D.sl (encI x.Tables.Daemons)) := rfl
@[simp] theorem GBook.encg_12 (x : GBook) (h : 12 < x.enc.length) : x.enc[12] = D.sl (encI x.Tables.Daemons) := rfl
@[simp] theorem GBook.enc_13 (x : GBook) : x.enc[13]? = some (D.sl (encI x.Tables.Params)) := rfl
@[simp] theorem GBook.encg_13 (x : GBook) (h : 13 < x.enc.length) : x.enc[13] = D.sl (encI x.Tables.Params) := rfl
@[simp] theorem GBook.enc_14 (x : GBook) : x.enc[14]? = some (D.sl (encI x.Tables.Locals)) := rfl
@[simp] theorem GBook.encg_14 (x : GBook) (h : 14 < x.enc.length) : x.enc[14] = D.sl (encI x.Tables.Locals) := rfl
@[simp] theorem GBook.enc_15 (x : GBook) : x.enc[15]? = some (D.sl (encSl (List.map GStmt.enc) x.Routines)) := rfl
@[simp] theorem GBook.encg_15 (x : GBook) (h : 15 < x.enc.length) : x.enc[15] = D.sl (encSl (List.map GStmt.enc) x.Routines) := rfl
@[simp] theorem GBook.fzV (L : Heap) (x : GBook) : V.fzs L (x.enc.map V.d) = x.enc.map V.d := by simp [GBook.enc, V.fzs, V.fz]
def GBook.zero : GBook := ⟨GTables.zero, []⟩
theorem GBook.zero_enc : GBook.zero.enc = [D.v (.int .i64 0), D.v (.int .i64 0), D.v (.int .i64 0), D.v (.int .i64 0), D.sl [], D.v (.int .i64 0), D.sl [], D.sl [], D.sl [], D.sl [], D.sl [], D.sl [], D.sl [], D.sl [], D.sl [], D.sl []] := rfl
@[simp] theorem GBook.dropAll (x : GBook) : List.drop 16 x.enc = [] := rfl
@[simp] theorem GBook.dropAllv (x : GBook) : List.drop 16 (x.enc.map V.d) = [] := rfl
@[simp] theorem GBook.enc_all (x : GBook) : x.enc.take 16 = x.enc := rfl
@[simp] theorem GBook.enc_allv (x : GBook) : List.take 16 (x.enc.map V.d) = x.enc.map V.d := rfl
@[simp] theorem GBook.sub_Tables (x : GBook) : List.take 15 (x.enc) = x.Tables.enc := rfl
@[simp] theorem GBook.subv_Tables (x : GBook) : List.take 15 (x.enc.map V.d) = x.Tables.enc.map V.d := rfl
def GBook.wf (x : GBook) : Prop := x.Tables.wf ∧ x.Routines.length * 24 ≤ 140737488351232 ∧ (∀ y0 : (List GStmt), y0 ∈ x.Routines → y0.length * 104 ≤ 140737488351232 ∧ (∀ y1 : GStmt, y1 ∈ y0 → y1.wf))
theorem GBook.wf_Tables {x : GBook} (h : x.wf) : x.Tables.wf := h.1
theorem GBook.wl_Routines {x : GBook} (h : x.wf) : x.Routines.length * 24 ≤ 140737488351232 := h.2.1
theorem GBook.wf_Routines {x : GBook} (h : x.wf) : (∀ y0 : (List GStmt), y0 ∈ x.Routines → y0.length * 104 ≤ 140737488351232 ∧ (∀ y1 : GStmt, y1 ∈ y0 → y1.wf)) := h.2.2
theorem tyK_50 : tyK Tryz.prog 50 = .st [28, 48] := by kernel_rfl
theorem tyK_48 : tyK Tryz.prog 48 = .sl 41 24 := by kernel_rfl
theorem GBook.of {ys : List D} (h : HasT Tryz.prog 50 ys) : ∃ x : GBook, ys = x.enc ∧ x.wf := by
  have h' := HasT.st_inv h tyK_50
  obtain ⟨a0_, r0, hr0, t0, h0⟩ := h'
  obtain ⟨a1_, r1, hr1, t1, h1⟩ := h0
  simp only [HasTs] at h1
  subst h1
  subst hr1
  subst hr0
  obtain ⟨a0_', rfl, a0_w⟩ := GTables.of t0
  obtain ⟨a1_0, rfl, a1_h, a1_l, a1_w⟩ := HasT.sl_inv t1 tyK_48
  obtain ⟨a1_', rfl, a1_a⟩ := map_of (f := (fun y => [D.sl (y.map GStmt.enc)])) (p := fun (y : (List GStmt)) => y.length * 104 ≤ 140737488351232 ∧ (∀ y1 : GStmt, y1 ∈ y → y1.wf)) (fun a1_e hx => by
    have a1_q := a1_h a1_e hx
    obtain ⟨a1_e0, rfl, a1_eh, a1_el, a1_ew⟩ := HasT.sl_inv a1_q tyK_41
    obtain ⟨a1_e', rfl, a1_ea⟩ := map_of (f := GStmt.enc) (p := fun (y : GStmt) => y.wf) (fun a1_ee hx => by
      have a1_eq := a1_eh a1_ee hx
      obtain ⟨a1_ee', rfl, a1_eew⟩ := GStmt.of a1_eq
      exact ⟨a1_ee', rfl, a1_eew⟩)
    exact ⟨a1_e', rfl, ⟨(by simpa using a1_ew), a1_ea⟩⟩)
  exact ⟨⟨a0_', a1_'⟩, rfl, ⟨a0_w, (by simpa using a1_w), a1_a⟩⟩
structure GEnv where
  Noun : Int
  Second : Int
  Number : Int
  deriving DecidableEq
def GEnv.enc (x : GEnv) : List D := [D.v (.int .i64 x.Noun), D.v (.int .i64 x.Second), D.v (.int .i64 x.Number)]
@[simp] theorem GEnv.enc_length (x : GEnv) : x.enc.length = 3 := rfl
@[simp] theorem GEnv.enc_0 (x : GEnv) : x.enc[0]? = some (D.v (.int .i64 x.Noun)) := rfl
@[simp] theorem GEnv.encg_0 (x : GEnv) (h : 0 < x.enc.length) : x.enc[0] = D.v (.int .i64 x.Noun) := rfl
@[simp] theorem GEnv.enc_1 (x : GEnv) : x.enc[1]? = some (D.v (.int .i64 x.Second)) := rfl
@[simp] theorem GEnv.encg_1 (x : GEnv) (h : 1 < x.enc.length) : x.enc[1] = D.v (.int .i64 x.Second) := rfl
@[simp] theorem GEnv.enc_2 (x : GEnv) : x.enc[2]? = some (D.v (.int .i64 x.Number)) := rfl
@[simp] theorem GEnv.encg_2 (x : GEnv) (h : 2 < x.enc.length) : x.enc[2] = D.v (.int .i64 x.Number) := rfl
@[simp] theorem GEnv.eqV (x y : GEnv) : eqVs (x.enc.map V.d) (y.enc.map V.d) = some (decide (x = y)) := by
  rcases x with ⟨a_0, a_1, a_2⟩
  rcases y with ⟨b_0, b_1, b_2⟩
  simp only [GEnv.enc, List.map, eqVs, vals, eqVals, eqV1, if_true, Option.some.injEq, bytes_beq]
  rw [Bool.eq_iff_iff]
  simp [and_assoc]
@[simp] theorem GEnv.fitV (x : GEnv) : fitVs [.i .i64, .i .i64, .i .i64] (x.enc.map V.d) = true := by
  simp [GEnv.enc, fitVs, vals, fits, fit1]
def GEnv.zero : GEnv := ⟨0, 0, 0⟩
theorem GEnv.zero_enc : GEnv.zero.enc = [D.v (.int .i64 0), D.v (.int .i64 0), D.v (.int .i64 0)] := rfl
@[simp] theorem GEnv.dropAll (x : GEnv) : List.drop 3 x.enc = [] := rfl
@[simp] theorem GEnv.dropAllv (x : GEnv) : List.drop 3 (x.enc.map V.d) = [] := rfl
@[simp] theorem GEnv.enc_all (x : GEnv) : x.enc.take 3 = x.enc := rfl
@[simp] theorem GEnv.enc_allv (x : GEnv) : List.take 3 (x.enc.map V.d) = x.enc.map V.d := rfl
def GEnv.wf (x : GEnv) : Prop := inR .i64 x.Noun ∧ inR .i64 x.Second ∧ inR .i64 x.Number
theorem tyK_52 : tyK Tryz.prog 52 = .st [3, 3, 3] := by kernel_rfl
theorem GEnv.of {ys : List D} (h : HasT Tryz.prog 52 ys) : ∃ x : GEnv, ys = x.enc ∧ x.wf := by
  have h' := HasT.st_inv h tyK_52
  obtain ⟨a0_, r0, hr0, t0, h0⟩ := h'
  obtain ⟨a1_, r1, hr1, t1, h1⟩ := h0
  obtain ⟨a2_, r2, hr2, t2, h2⟩ := h1
  simp only [HasTs] at h2
  subst h2
  subst hr2
  subst hr1
  subst hr0
  obtain ⟨a0_', rfl, a0_w⟩ := HasT.int_inv t0 tyK_3
  obtain ⟨a1_', rfl, a1_w⟩ := HasT.int_inv t1 tyK_3
  obtain ⟨a2_', rfl, a2_w⟩ := HasT.int_inv t2 tyK_3
  exact ⟨⟨a0_', a1_', a2_'⟩, rfl, ⟨a0_w, a1_w, a2_w⟩⟩
structure GTold where
  Err : Int
  World : GWorld
  Out : ByteArray
  Value : Int
  Stopped : Bool
  Fuel : Int
  deriving DecidableEq
def GTold.enc (x : GTold) : List D := [D.v (.int .i64 x.Err), D.sl (encI x.World.Globals), D.sl (encI x.World.Parent), D.sl (encI x.World.Child), D.sl (encI x.World.Next), D.sl (encI x.World.Flags), D.sl (encI x.World.Props), D.sl (encI x.World.Timers), D.v (.int .u64 x.World.Seed), D.v (.int .i64 x.World.Score), D.v (.int .i64 x.World.Turns), D.v (.int .i64 x.World.Over), D.v (.int .i64 x.World.It), D.v (.int .i64 x.World.Go), D.v (.string x.Out), D.v (.int .i64 x.Value), D.v (.bool x.Stopped), D.v (.int .i64 x.Fuel)]
@[simp] theorem GTold.enc_length (x : GTold) : x.enc.length = 18 := rfl
@[simp] theorem GTold.enc_0 (x : GTold) : x.enc[0]? = some (D.v (.int .i64 x.Err)) := rfl
@[simp] theorem GTold.encg_0 (x : GTold) (h : 0 < x.enc.length) : x.enc[0] = D.v (.int .i64 x.Err) := rfl
@[simp] theorem GTold.enc_1 (x : GTold) : x.enc[1]? = some (D.sl (encI x.World.Globals)) := rfl
@[simp] theorem GTold.encg_1 (x : GTold) (h : 1 < x.enc.length) : x.enc[1] = D.sl (encI x.World.Globals) := rfl
@[simp] theorem GTold.enc_2 (x : GTold) : x.enc[2]? = some (D.sl (encI x.World.Parent)) := rfl
@[simp] theorem GTold.encg_2 (x : GTold) (h : 2 < x.enc.length) : x.enc[2] = D.sl (encI x.World.Parent) := rfl
@[simp] theorem GTold.enc_3 (x : GTold) : x.enc[3]? = some (D.sl (encI x.World.Child)) := rfl
@[simp] theorem GTold.encg_3 (x : GTold) (h : 3 < x.enc.length) : x.enc[3] = D.sl (encI x.World.Child) := rfl
@[simp] theorem GTold.enc_4 (x : GTold) : x.enc[4]? = some (D.sl (encI x.World.Next)) := rfl
@[simp] theorem GTold.encg_4 (x : GTold) (h : 4 < x.enc.length) : x.enc[4] = D.sl (encI x.World.Next) := rfl
@[simp] theorem GTold.enc_5 (x : GTold) : x.enc[5]? = some (D.sl (encI x.World.Flags)) := rfl
@[simp] theorem GTold.encg_5 (x : GTold) (h : 5 < x.enc.length) : x.enc[5] = D.sl (encI x.World.Flags) := rfl
@[simp] theorem GTold.enc_6 (x : GTold) : x.enc[6]? = some (D.sl (encI x.World.Props)) := rfl
@[simp] theorem GTold.encg_6 (x : GTold) (h : 6 < x.enc.length) : x.enc[6] = D.sl (encI x.World.Props) := rfl
@[simp] theorem GTold.enc_7 (x : GTold) : x.enc[7]? = some (D.sl (encI x.World.Timers)) := rfl
@[simp] theorem GTold.encg_7 (x : GTold) (h : 7 < x.enc.length) : x.enc[7] = D.sl (encI x.World.Timers) := rfl
@[simp] theorem GTold.enc_8 (x : GTold) : x.enc[8]? = some (D.v (.int .u64 x.World.Seed)) := rfl
@[simp] theorem GTold.encg_8 (x : GTold) (h : 8 < x.enc.length) : x.enc[8] = D.v (.int .u64 x.World.Seed) := rfl
@[simp] theorem GTold.enc_9 (x : GTold) : x.enc[9]? = some (D.v (.int .i64 x.World.Score)) := rfl
@[simp] theorem GTold.encg_9 (x : GTold) (h : 9 < x.enc.length) : x.enc[9] = D.v (.int .i64 x.World.Score) := rfl
@[simp] theorem GTold.enc_10 (x : GTold) : x.enc[10]? = some (D.v (.int .i64 x.World.Turns)) := rfl
@[simp] theorem GTold.encg_10 (x : GTold) (h : 10 < x.enc.length) : x.enc[10] = D.v (.int .i64 x.World.Turns) := rfl
@[simp] theorem GTold.enc_11 (x : GTold) : x.enc[11]? = some (D.v (.int .i64 x.World.Over)) := rfl
@[simp] theorem GTold.encg_11 (x : GTold) (h : 11 < x.enc.length) : x.enc[11] = D.v (.int .i64 x.World.Over) := rfl
@[simp] theorem GTold.enc_12 (x : GTold) : x.enc[12]? = some (D.v (.int .i64 x.World.It)) := rfl
@[simp] theorem GTold.encg_12 (x : GTold) (h : 12 < x.enc.length) : x.enc[12] = D.v (.int .i64 x.World.It) := rfl
@[simp] theorem GTold.enc_13 (x : GTold) : x.enc[13]? = some (D.v (.int .i64 x.World.Go)) := rfl
@[simp] theorem GTold.encg_13 (x : GTold) (h : 13 < x.enc.length) : x.enc[13] = D.v (.int .i64 x.World.Go) := rfl
@[simp] theorem GTold.enc_14 (x : GTold) : x.enc[14]? = some (D.v (.string x.Out)) := rfl
@[simp] theorem GTold.encg_14 (x : GTold) (h : 14 < x.enc.length) : x.enc[14] = D.v (.string x.Out) := rfl
@[simp] theorem GTold.enc_15 (x : GTold) : x.enc[15]? = some (D.v (.int .i64 x.Value)) := rfl
@[simp] theorem GTold.encg_15 (x : GTold) (h : 15 < x.enc.length) : x.enc[15] = D.v (.int .i64 x.Value) := rfl
@[simp] theorem GTold.enc_16 (x : GTold) : x.enc[16]? = some (D.v (.bool x.Stopped)) := rfl
@[simp] theorem GTold.encg_16 (x : GTold) (h : 16 < x.enc.length) : x.enc[16] = D.v (.bool x.Stopped) := rfl
@[simp] theorem GTold.enc_17 (x : GTold) : x.enc[17]? = some (D.v (.int .i64 x.Fuel)) := rfl
@[simp] theorem GTold.encg_17 (x : GTold) (h : 17 < x.enc.length) : x.enc[17] = D.v (.int .i64 x.Fuel) := rfl
def GTold.zero : GTold := ⟨0, GWorld.zero, ⟨#[]⟩, 0, false, 0⟩
theorem GTold.zero_enc : GTold.zero.enc = [D.v (.int .i64 0), D.sl [], D.sl [], D.sl [], D.sl [], D.sl [], D.sl [], D.sl [], D.v (.int .u64 0), D.v (.int .i64 0), D.v (.int .i64 0), D.v (.int .i64 0), D.v (.int .i64 0), D.v (.int .i64 0), D.v (.string ⟨#[]⟩), D.v (.int .i64 0), D.v (.bool false), D.v (.int .i64 0)] := rfl
@[simp] theorem GTold.dropAll (x : GTold) : List.drop 18 x.enc = [] := rfl
@[simp] theorem GTold.dropAllv (x : GTold) : List.drop 18 (x.enc.map V.d) = [] := rfl
@[simp] theorem GTold.enc_all (x : GTold) : x.enc.take 18 = x.enc := rfl
@[simp] theorem GTold.enc_allv (x : GTold) : List.take 18 (x.enc.map V.d) = x.enc.map V.d := rfl
@[simp] theorem GTold.sub_World (x : GTold) : List.take 13 (List.drop 1 x.enc) = x.World.enc := rfl
@[simp] theorem GTold.subv_World (x : GTold) : List.take 13 (List.drop 1 (x.enc.map V.d)) = x.World.enc.map V.d := rfl
structure GCall where
  Routine : Int
  Fuel : Int
  Steps : Int
  Args : (List Int)
  Env : GEnv
  deriving DecidableEq
def GCall.enc (x : GCall) : List D := [D.v (.int .i64 x.Routine), D.v (.int .i64 x.Fuel), D.v (.int .i64 x.Steps), D.sl (encI x.Args), D.v (.int .i64 x.Env.Noun), D.v (.int .i64 x.Env.Second), D.v (.int .i64 x.Env.Number)]
@[simp] theorem GCall.enc_length (x : GCall) : x.enc.length = 7 := rfl
@[simp] theorem GCall.enc_0 (x : GCall) : x.enc[0]? = some (D.v (.int .i64 x.Routine)) := rfl
@[simp] theorem GCall.encg_0 (x : GCall) (h : 0 < x.enc.length) : x.enc[0] = D.v (.int .i64 x.Routine) := rfl
@[simp] theorem GCall.enc_1 (x : GCall) : x.enc[1]? = some (D.v (.int .i64 x.Fuel)) := rfl
@[simp] theorem GCall.encg_1 (x : GCall) (h : 1 < x.enc.length) : x.enc[1] = D.v (.int .i64 x.Fuel) := rfl
@[simp] theorem GCall.enc_2 (x : GCall) : x.enc[2]? = some (D.v (.int .i64 x.Steps)) := rfl
@[simp] theorem GCall.encg_2 (x : GCall) (h : 2 < x.enc.length) : x.enc[2] = D.v (.int .i64 x.Steps) := rfl
@[simp] theorem GCall.enc_3 (x : GCall) : x.enc[3]? = some (D.sl (encI x.Args)) := rfl
@[simp] theorem GCall.encg_3 (x : GCall) (h : 3 < x.enc.length) : x.enc[3] = D.sl (encI x.Args) := rfl
@[simp] theorem GCall.enc_4 (x : GCall) : x.enc[4]? = some (D.v (.int .i64 x.Env.Noun)) := rfl
@[simp] theorem GCall.encg_4 (x : GCall) (h : 4 < x.enc.length) : x.enc[4] = D.v (.int .i64 x.Env.Noun) := rfl
@[simp] theorem GCall.enc_5 (x : GCall) : x.enc[5]? = some (D.v (.int .i64 x.Env.Second)) := rfl
@[simp] theorem GCall.encg_5 (x : GCall) (h : 5 < x.enc.length) : x.enc[5] = D.v (.int .i64 x.Env.Second) := rfl
@[simp] theorem GCall.enc_6 (x : GCall) : x.enc[6]? = some (D.v (.int .i64 x.Env.Number)) := rfl
@[simp] theorem GCall.encg_6 (x : GCall) (h : 6 < x.enc.length) : x.enc[6] = D.v (.int .i64 x.Env.Number) := rfl
def GCall.zero : GCall := ⟨0, 0, 0, [], GEnv.zero⟩
theorem GCall.zero_enc : GCall.zero.enc = [D.v (.int .i64 0), D.v (.int .i64 0), D.v (.int .i64 0), D.sl [], D.v (.int .i64 0), D.v (.int .i64 0), D.v (.int .i64 0)] := rfl
@[simp] theorem GCall.dropAll (x : GCall) : List.drop 7 x.enc = [] := rfl
@[simp] theorem GCall.dropAllv (x : GCall) : List.drop 7 (x.enc.map V.d) = [] := rfl
@[simp] theorem GCall.enc_all (x : GCall) : x.enc.take 7 = x.enc := rfl
@[simp] theorem GCall.enc_allv (x : GCall) : List.take 7 (x.enc.map V.d) = x.enc.map V.d := rfl
@[simp] theorem GCall.sub_Env (x : GCall) : List.take 3 (List.drop 4 x.enc) = x.Env.enc := rfl
@[simp] theorem GCall.subv_Env (x : GCall) : List.take 3 (List.drop 4 (x.enc.map V.d)) = x.Env.enc.map V.d := rfl
@[simp] theorem GCall.tailv_Env (x : GCall) : List.drop 4 (x.enc.map V.d) = x.Env.enc.map V.d := rfl
@[simp] theorem GCall.tail_Env (x : GCall) : List.drop 4 x.enc = x.Env.enc := rfl
def GCall.wf (x : GCall) : Prop := inR .i64 x.Routine ∧ inR .i64 x.Fuel ∧ inR .i64 x.Steps ∧ x.Args.length * 8 ≤ 140737488351232 ∧ (∀ y0 : Int, y0 ∈ x.Args → inR .i64 y0) ∧ x.Env.wf
theorem tyK_58 : tyK Tryz.prog 58 = .st [3, 3, 3, 23, 52] := by kernel_rfl
theorem GCall.of {ys : List D} (h : HasT Tryz.prog 58 ys) : ∃ x : GCall, ys = x.enc ∧ x.wf := by
  have h' := HasT.st_inv h tyK_58
  obtain ⟨a0_, r0, hr0, t0, h0⟩ := h'
  obtain ⟨a1_, r1, hr1, t1, h1⟩ := h0
  obtain ⟨a2_, r2, hr2, t2, h2⟩ := h1
  obtain ⟨a3_, r3, hr3, t3, h3⟩ := h2
  obtain ⟨a4_, r4, hr4, t4, h4⟩ := h3
  simp only [HasTs] at h4
  subst h4
  subst hr4
  subst hr3
  subst hr2
  subst hr1
  subst hr0
  obtain ⟨a0_', rfl, a0_w⟩ := HasT.int_inv t0 tyK_3
  obtain ⟨a1_', rfl, a1_w⟩ := HasT.int_inv t1 tyK_3
  obtain ⟨a2_', rfl, a2_w⟩ := HasT.int_inv t2 tyK_3
  obtain ⟨a3_0, rfl, a3_h, a3_l, a3_w⟩ := HasT.sl_inv t3 tyK_23
  obtain ⟨a3_', rfl, a3_a⟩ := map_of (f := (fun y => [D.v (.int .i64 y)])) (p := fun (y : Int) => inR .i64 y) (fun a3_e hx => by
    have a3_q := a3_h a3_e hx
    obtain ⟨a3_e', rfl, a3_ew⟩ := HasT.int_inv a3_q tyK_3
    exact ⟨a3_e', rfl, a3_ew⟩)
  obtain ⟨a4_', rfl, a4_w⟩ := GEnv.of t4
  exact ⟨⟨a0_', a1_', a2_', a3_', a4_'⟩, rfl, ⟨a0_w, a1_w, a2_w, (by simpa using a3_w), a3_a, a4_w⟩⟩
structure GStory where
  Tables : GTables
  Entry : (List Int)
  Code : (List Int)
  deriving DecidableEq
def GStory.enc (x : GStory) : List D := [D.v (.int .i64 x.Tables.Title), D.v (.int .i64 x.Tables.By), D.v (.int .i64 x.Tables.Release), D.v (.int .i64 x.Tables.Max), D.sl (encS x.Tables.Texts), D.v (.int .i64 x.Tables.Flags), D.sl (encI x.Tables.Props), D.sl (encI x.Tables.Globals), D.sl (x.Tables.Things.map GThing.enc), D.sl (x.Tables.Acts.map GAct.enc), D.sl (x.Tables.Deeds.map GDeed.enc), D.sl (encI x.Tables.Funcs), D.sl (encI x.Tables.Daemons), D.sl (encI x.Tables.Params), D.sl (encI x.Tables.Locals), D.sl (encI x.Entry), D.sl (x.Code.map fun y => [D.v (.int .u8 y)])]
@[simp] theorem GStory.enc_length (x : GStory) : x.enc.length = 17 := rfl
@[simp] theorem GStory.enc_0 (x : GStory) : x.enc[0]? = some (D.v (.int .i64 x.Tables.Title)) := rfl
@[simp] theorem GStory.encg_0 (x : GStory) (h : 0 < x.enc.length) : x.enc[0] = D.v (.int .i64 x.Tables.Title) := rfl
@[simp] theorem GStory.enc_1 (x : GStory) : x.enc[1]? = some (D.v (.int .i64 x.Tables.By)) := rfl
@[simp] theorem GStory.encg_1 (x : GStory) (h : 1 < x.enc.length) : x.enc[1] = D.v (.int .i64 x.Tables.By) := rfl
@[simp] theorem GStory.enc_2 (x : GStory) : x.enc[2]? = some (D.v (.int .i64 x.Tables.Release)) := rfl
@[simp] theorem GStory.encg_2 (x : GStory) (h : 2 < x.enc.length) : x.enc[2] = D.v (.int .i64 x.Tables.Release) := rfl
@[simp] theorem GStory.enc_3 (x : GStory) : x.enc[3]? = some (D.v (.int .i64 x.Tables.Max)) := rfl
@[simp] theorem GStory.encg_3 (x : GStory) (h : 3 < x.enc.length) : x.enc[3] = D.v (.int .i64 x.Tables.Max) := rfl
@[simp] theorem GStory.enc_4 (x : GStory) : x.enc[4]? = some (D.sl (encS x.Tables.Texts)) := rfl
@[simp] theorem GStory.encg_4 (x : GStory) (h : 4 < x.enc.length) : x.enc[4] = D.sl (encS x.Tables.Texts) := rfl
@[simp] theorem GStory.enc_5 (x : GStory) : x.enc[5]? = some (D.v (.int .i64 x.Tables.Flags)) := rfl
@[simp] theorem GStory.encg_5 (x : GStory) (h : 5 < x.enc.length) : x.enc[5] = D.v (.int .i64 x.Tables.Flags) := rfl
@[simp] theorem GStory.enc_6 (x : GStory) : x.enc[6]? = some (D.sl (encI x.Tables.Props)) := rfl
@[simp] theorem GStory.encg_6 (x : GStory) (h : 6 < x.enc.length) : x.enc[6] = D.sl (encI x.Tables.Props) := rfl
@[simp] theorem GStory.enc_7 (x : GStory) : x.enc[7]? = some (D.sl (encI x.Tables.Globals)) := rfl
@[simp] theorem GStory.encg_7 (x : GStory) (h : 7 < x.enc.length) : x.enc[7] = D.sl (encI x.Tables.Globals) := rfl
@[simp] theorem GStory.enc_8 (x : GStory) : x.enc[8]? = some (D.sl (x.Tables.Things.map GThing.enc)) := rfl
@[simp] theorem GStory.encg_8 (x : GStory) (h : 8 < x.enc.length) : x.enc[8] = D.sl (x.Tables.Things.map GThing.enc) := rfl
@[simp] theorem GStory.enc_9 (x : GStory) : x.enc[9]? = some (D.sl (x.Tables.Acts.map GAct.enc)) := rfl
@[simp] theorem GStory.encg_9 (x : GStory) (h : 9 < x.enc.length) : x.enc[9] = D.sl (x.Tables.Acts.map GAct.enc) := rfl
@[simp] theorem GStory.enc_10 (x : GStory) : x.enc[10]? = some (D.sl (x.Tables.Deeds.map GDeed.enc)) := rfl
@[simp] theorem GStory.encg_10 (x : GStory) (h : 10 < x.enc.length) : x.enc[10] = D.sl (x.Tables.Deeds.map GDeed.enc) := rfl
@[simp] theorem GStory.enc_11 (x : GStory) : x.enc[11]? = some (D.sl (encI x.Tables.Funcs)) := rfl
@[simp] theorem GStory.encg_11 (x : GStory) (h : 11 < x.enc.length) : x.enc[11] = D.sl (encI x.Tables.Funcs) := rfl
@[simp] theorem GStory.enc_12 (x : GStory) : x.enc[12]? = some (D.sl (encI x.Tables.Daemons)) := rfl
@[simp] theorem GStory.encg_12 (x : GStory) (h : 12 < x.enc.length) : x.enc[12] = D.sl (encI x.Tables.Daemons) := rfl
@[simp] theorem GStory.enc_13 (x : GStory) : x.enc[13]? = some (D.sl (encI x.Tables.Params)) := rfl
@[simp] theorem GStory.encg_13 (x : GStory) (h : 13 < x.enc.length) : x.enc[13] = D.sl (encI x.Tables.Params) := rfl
@[simp] theorem GStory.enc_14 (x : GStory) : x.enc[14]? = some (D.sl (encI x.Tables.Locals)) := rfl
@[simp] theorem GStory.encg_14 (x : GStory) (h : 14 < x.enc.length) : x.enc[14] = D.sl (encI x.Tables.Locals) := rfl
@[simp] theorem GStory.enc_15 (x : GStory) : x.enc[15]? = some (D.sl (encI x.Entry)) := rfl
@[simp] theorem GStory.encg_15 (x : GStory) (h : 15 < x.enc.length) : x.enc[15] = D.sl (encI x.Entry) := rfl
@[simp] theorem GStory.enc_16 (x : GStory) : x.enc[16]? = some (D.sl (x.Code.map fun y => [D.v (.int .u8 y)])) := rfl
@[simp] theorem GStory.encg_16 (x : GStory) (h : 16 < x.enc.length) : x.enc[16] = D.sl (x.Code.map fun y => [D.v (.int .u8 y)]) := rfl
@[simp] theorem GStory.fzV (L : Heap) (x : GStory) : V.fzs L (x.enc.map V.d) = x.enc.map V.d := by simp [GStory.enc, V.fzs, V.fz]
def GStory.zero : GStory := ⟨GTables.zero, [], []⟩
theorem GStory.zero_enc : GStory.zero.enc = [D.v (.int .i64 0), D.v (.int .i64 0), D.v (.int .i64 0), D.v (.int .i64 0), D.sl [], D.v (.int .i64 0), D.sl [], D.sl [], D.sl [], D.sl [], D.sl [], D.sl [], D.sl [], D.sl [], D.sl [], D.sl [], D.sl []] := rfl
@[simp] theorem GStory.dropAll (x : GStory) : List.drop 17 x.enc = [] := rfl
@[simp] theorem GStory.dropAllv (x : GStory) : List.drop 17 (x.enc.map V.d) = [] := rfl
@[simp] theorem GStory.enc_all (x : GStory) : x.enc.take 17 = x.enc := rfl
@[simp] theorem GStory.enc_allv (x : GStory) : List.take 17 (x.enc.map V.d) = x.enc.map V.d := rfl
@[simp] theorem GStory.sub_Tables (x : GStory) : List.take 15 (x.enc) = x.Tables.enc := rfl
@[simp] theorem GStory.subv_Tables (x : GStory) : List.take 15 (x.enc.map V.d) = x.Tables.enc.map V.d := rfl
structure GFrame where
  Routine : Int
  At : Int
  Base : Int
  Locals : (List Int)
  deriving DecidableEq
def GFrame.enc (x : GFrame) : List D := [D.v (.int .i64 x.Routine), D.v (.int .i64 x.At), D.v (.int .i64 x.Base), D.sl (encI x.Locals)]
@[simp] theorem GFrame.enc_length (x : GFrame) : x.enc.length = 4 := rfl
@[simp] theorem GFrame.enc_0 (x : GFrame) : x.enc[0]? = some (D.v (.int .i64 x.Routine)) := rfl
@[simp] theorem GFrame.encg_0 (x : GFrame) (h : 0 < x.enc.length) : x.enc[0] = D.v (.int .i64 x.Routine) := rfl
@[simp] theorem GFrame.enc_1 (x : GFrame) : x.enc[1]? = some (D.v (.int .i64 x.At)) := rfl
@[simp] theorem GFrame.encg_1 (x : GFrame) (h : 1 < x.enc.length) : x.enc[1] = D.v (.int .i64 x.At) := rfl
@[simp] theorem GFrame.enc_2 (x : GFrame) : x.enc[2]? = some (D.v (.int .i64 x.Base)) := rfl
@[simp] theorem GFrame.encg_2 (x : GFrame) (h : 2 < x.enc.length) : x.enc[2] = D.v (.int .i64 x.Base) := rfl
@[simp] theorem GFrame.enc_3 (x : GFrame) : x.enc[3]? = some (D.sl (encI x.Locals)) := rfl
@[simp] theorem GFrame.encg_3 (x : GFrame) (h : 3 < x.enc.length) : x.enc[3] = D.sl (encI x.Locals) := rfl
def GFrame.zero : GFrame := ⟨0, 0, 0, []⟩
theorem GFrame.zero_enc : GFrame.zero.enc = [D.v (.int .i64 0), D.v (.int .i64 0), D.v (.int .i64 0), D.sl []] := rfl
theorem GFrame.cellAt (l : List GFrame) (i j : Nat) (z : D) (h : GFrame.zero.enc[j]? = some z) : cellAt (dd (l.map GFrame.enc)) i j [V.d z] = V.d (((l[i]?.getD GFrame.zero).enc[j]?).getD default) := by
  unfold Go.Ab.cellAt
  rw [dd_get, List.getElem?_map]
  cases hl : l[i]? with
  | none => simp [h]
  | some a =>
    have hj := (List.getElem?_eq_some_iff.1 h).1
    have hj' : j < a.enc.length := by rw [GFrame.enc_length] at hj ⊢; exact hj
    simp only [Option.map_some, List.getElem?_map, List.getElem?_eq_getElem hj', Option.getD_some]
@[simp] theorem GFrame.cellAt_1 (l : List GFrame) (i : Nat) : Go.Ab.cellAt (dd (l.map GFrame.enc)) i 1 [V.d (D.v (.int .i64 0))] = V.d (D.v (.int .i64 (l[i]?.getD GFrame.zero).At)) := (GFrame.cellAt l i 1 (D.v (.int .i64 0)) rfl).trans (by simp)
@[simp] theorem GFrame.cellAt_2 (l : List GFrame) (i : Nat) : Go.Ab.cellAt (dd (l.map GFrame.enc)) i 2 [V.d (D.v (.int .i64 0))] = V.d (D.v (.int .i64 (l[i]?.getD GFrame.zero).Base)) := (GFrame.cellAt l i 2 (D.v (.int .i64 0)) rfl).trans (by simp)
@[simp] theorem GFrame.dropAll (x : GFrame) : List.drop 4 x.enc = [] := rfl
@[simp] theorem GFrame.dropAllv (x : GFrame) : List.drop 4 (x.enc.map V.d) = [] := rfl
@[simp] theorem GFrame.enc_all (x : GFrame) : x.enc.take 4 = x.enc := rfl
@[simp] theorem GFrame.enc_allv (x : GFrame) : List.take 4 (x.enc.map V.d) = x.enc.map V.d := rfl
structure GMachine where
  Frames : (List GFrame)
  Stack : (List Int)
  Env : GEnv
  Told : GTold
  Done : Bool
  deriving DecidableEq
def GMachine.enc (x : GMachine) : List D := [D.sl (x.Frames.map GFrame.enc), D.sl (encI x.Stack), D.v (.int .i64 x.Env.Noun), D.v (.int .i64 x.Env.Second), D.v (.int .i64 x.Env.Number), D.v (.int .i64 x.Told.Err), D.sl (encI x.Told.World.Globals), D.sl (encI x.Told.World.Parent), D.sl (encI x.Told.World.Child), D.sl (encI x.Told.World.Next), D.sl (encI x.Told.World.Flags), D.sl (encI x.Told.World.Props), D.sl (encI x.Told.World.Timers), D.v (.int .u64 x.Told.World.Seed), D.v (.int .i64 x.Told.World.Score), D.v (.int .i64 x.Told.World.Turns), D.v (.int .i64 x.Told.World.Over), D.v (.int .i64 x.Told.World.It), D.v (.int .i64 x.Told.World.Go), D.v (.string x.Told.Out), D.v (.int .i64 x.Told.Value), D.v (.bool x.Told.Stopped), D.v (.int .i64 x.Told.Fuel), D.v (.bool x.Done)]
@[simp] theorem GMachine.enc_length (x : GMachine) : x.enc.length = 24 := rfl
@[simp] theorem GMachine.enc_0 (x : GMachine) : x.enc[0]? = some (D.sl (x.Frames.map GFrame.enc)) := rfl
@[simp] theorem GMachine.encg_0 (x : GMachine) (h : 0 < x.enc.length) : x.enc[0] = D.sl (x.Frames.map GFrame.enc) := rfl
@[simp] theorem GMachine.enc_1 (x : GMachine) : x.enc[1]? = some (D.sl (encI x.Stack)) := rfl
@[simp] theorem GMachine.encg_1 (x : GMachine) (h : 1 < x.enc.length) : x.enc[1] = D.sl (encI x.Stack) := rfl
@[simp] theorem GMachine.enc_2 (x : GMachine) : x.enc[2]? = some (D.v (.int .i64 x.Env.Noun)) := rfl
@[simp] theorem GMachine.encg_2 (x : GMachine) (h : 2 < x.enc.length) : x.enc[2] = D.v (.int .i64 x.Env.Noun) := rfl
@[simp] theorem GMachine.enc_3 (x : GMachine) : x.enc[3]? = some (D.v (.int .i64 x.Env.Second)) := rfl
@[simp] theorem GMachine.encg_3 (x : GMachine) (h : 3 < x.enc.length) : x.enc[3] = D.v (.int .i64 x.Env.Second) := rfl
@[simp] theorem GMachine.enc_4 (x : GMachine) : x.enc[4]? = some (D.v (.int .i64 x.Env.Number)) := rfl
@[simp] theorem GMachine.encg_4 (x : GMachine) (h : 4 < x.enc.length) : x.enc[4] = D.v (.int .i64 x.Env.Number) := rfl
@[simp] theorem GMachine.enc_5 (x : GMachine) : x.enc[5]? = some (D.v (.int .i64 x.Told.Err)) := rfl
@[simp] theorem GMachine.encg_5 (x : GMachine) (h : 5 < x.enc.length) : x.enc[5] = D.v (.int .i64 x.Told.Err) := rfl
@[simp] theorem GMachine.enc_6 (x : GMachine) : x.enc[6]? = some (D.sl (encI x.Told.World.Globals)) := rfl
@[simp] theorem GMachine.encg_6 (x : GMachine) (h : 6 < x.enc.length) : x.enc[6] = D.sl (encI x.Told.World.Globals) := rfl
@[simp] theorem GMachine.enc_7 (x : GMachine) : x.enc[7]? = some (D.sl (encI x.Told.World.Parent)) := rfl
@[simp] theorem GMachine.encg_7 (x : GMachine) (h : 7 < x.enc.length) : x.enc[7] = D.sl (encI x.Told.World.Parent) := rfl
@[simp] theorem GMachine.enc_8 (x : GMachine) : x.enc[8]? = some (D.sl (encI x.Told.World.Child)) := rfl
@[simp] theorem GMachine.encg_8 (x : GMachine) (h : 8 < x.enc.length) : x.enc[8] = D.sl (encI x.Told.World.Child) := rfl
@[simp] theorem GMachine.enc_9 (x : GMachine) : x.enc[9]? = some (D.sl (encI x.Told.World.Next)) := rfl
@[simp] theorem GMachine.encg_9 (x : GMachine) (h : 9 < x.enc.length) : x.enc[9] = D.sl (encI x.Told.World.Next) := rfl
@[simp] theorem GMachine.enc_10 (x : GMachine) : x.enc[10]? = some (D.sl (encI x.Told.World.Flags)) := rfl
@[simp] theorem GMachine.encg_10 (x : GMachine) (h : 10 < x.enc.length) : x.enc[10] = D.sl (encI x.Told.World.Flags) := rfl
@[simp] theorem GMachine.enc_11 (x : GMachine) : x.enc[11]? = some (D.sl (encI x.Told.World.Props)) := rfl
@[simp] theorem GMachine.encg_11 (x : GMachine) (h : 11 < x.enc.length) : x.enc[11] = D.sl (encI x.Told.World.Props) := rfl
@[simp] theorem GMachine.enc_12 (x : GMachine) : x.enc[12]? = some (D.sl (encI x.Told.World.Timers)) := rfl
@[simp] theorem GMachine.encg_12 (x : GMachine) (h : 12 < x.enc.length) : x.enc[12] = D.sl (encI x.Told.World.Timers) := rfl
@[simp] theorem GMachine.enc_13 (x : GMachine) : x.enc[13]? = some (D.v (.int .u64 x.Told.World.Seed)) := rfl
@[simp] theorem GMachine.encg_13 (x : GMachine) (h : 13 < x.enc.length) : x.enc[13] = D.v (.int .u64 x.Told.World.Seed) := rfl
@[simp] theorem GMachine.enc_14 (x : GMachine) : x.enc[14]? = some (D.v (.int .i64 x.Told.World.Score)) := rfl
@[simp] theorem GMachine.encg_14 (x : GMachine) (h : 14 < x.enc.length) : x.enc[14] = D.v (.int .i64 x.Told.World.Score) := rfl
@[simp] theorem GMachine.enc_15 (x : GMachine) : x.enc[15]? = some (D.v (.int .i64 x.Told.World.Turns)) := rfl
@[simp] theorem GMachine.encg_15 (x : GMachine) (h : 15 < x.enc.length) : x.enc[15] = D.v (.int .i64 x.Told.World.Turns) := rfl
@[simp] theorem GMachine.enc_16 (x : GMachine) : x.enc[16]? = some (D.v (.int .i64 x.Told.World.Over)) := rfl
@[simp] theorem GMachine.encg_16 (x : GMachine) (h : 16 < x.enc.length) : x.enc[16] = D.v (.int .i64 x.Told.World.Over) := rfl
@[simp] theorem GMachine.enc_17 (x : GMachine) : x.enc[17]? = some (D.v (.int .i64 x.Told.World.It)) := rfl
@[simp] theorem GMachine.encg_17 (x : GMachine) (h : 17 < x.enc.length) : x.enc[17] = D.v (.int .i64 x.Told.World.It) := rfl
@[simp] theorem GMachine.enc_18 (x : GMachine) : x.enc[18]? = some (D.v (.int .i64 x.Told.World.Go)) := rfl
@[simp] theorem GMachine.encg_18 (x : GMachine) (h : 18 < x.enc.length) : x.enc[18] = D.v (.int .i64 x.Told.World.Go) := rfl
@[simp] theorem GMachine.enc_19 (x : GMachine) : x.enc[19]? = some (D.v (.string x.Told.Out)) := rfl
@[simp] theorem GMachine.encg_19 (x : GMachine) (h : 19 < x.enc.length) : x.enc[19] = D.v (.string x.Told.Out) := rfl
@[simp] theorem GMachine.enc_20 (x : GMachine) : x.enc[20]? = some (D.v (.int .i64 x.Told.Value)) := rfl
@[simp] theorem GMachine.encg_20 (x : GMachine) (h : 20 < x.enc.length) : x.enc[20] = D.v (.int .i64 x.Told.Value) := rfl
@[simp] theorem GMachine.enc_21 (x : GMachine) : x.enc[21]? = some (D.v (.bool x.Told.Stopped)) := rfl
@[simp] theorem GMachine.encg_21 (x : GMachine) (h : 21 < x.enc.length) : x.enc[21] = D.v (.bool x.Told.Stopped) := rfl
@[simp] theorem GMachine.enc_22 (x : GMachine) : x.enc[22]? = some (D.v (.int .i64 x.Told.Fuel)) := rfl
@[simp] theorem GMachine.encg_22 (x : GMachine) (h : 22 < x.enc.length) : x.enc[22] = D.v (.int .i64 x.Told.Fuel) := rfl
@[simp] theorem GMachine.enc_23 (x : GMachine) : x.enc[23]? = some (D.v (.bool x.Done)) := rfl
@[simp] theorem GMachine.encg_23 (x : GMachine) (h : 23 < x.enc.length) : x.enc[23] = D.v (.bool x.Done) := rfl
def GMachine.zero : GMachine := ⟨[], [], GEnv.zero, GTold.zero, false⟩
theorem GMachine.zero_enc : GMachine.zero.enc = [D.sl [], D.sl [], D.v (.int .i64 0), D.v (.int .i64 0), D.v (.int .i64 0), D.v (.int .i64 0), D.sl [], D.sl [], D.sl [], D.sl [], D.sl [], D.sl [], D.sl [], D.v (.int .u64 0), D.v (.int .i64 0), D.v (.int .i64 0), D.v (.int .i64 0), D.v (.int .i64 0), D.v (.int .i64 0), D.v (.string ⟨#[]⟩), D.v (.int .i64 0), D.v (.bool false), D.v (.int .i64 0), D.v (.bool false)] := rfl
@[simp] theorem GMachine.dropAll (x : GMachine) : List.drop 24 x.enc = [] := rfl
@[simp] theorem GMachine.dropAllv (x : GMachine) : List.drop 24 (x.enc.map V.d) = [] := rfl
@[simp] theorem GMachine.enc_all (x : GMachine) : x.enc.take 24 = x.enc := rfl
@[simp] theorem GMachine.enc_allv (x : GMachine) : List.take 24 (x.enc.map V.d) = x.enc.map V.d := rfl
@[simp] theorem GMachine.sub_Env (x : GMachine) : List.take 3 (List.drop 2 x.enc) = x.Env.enc := rfl
@[simp] theorem GMachine.subv_Env (x : GMachine) : List.take 3 (List.drop 2 (x.enc.map V.d)) = x.Env.enc.map V.d := rfl
@[simp] theorem GMachine.sub_Told (x : GMachine) : List.take 18 (List.drop 5 x.enc) = x.Told.enc := rfl
@[simp] theorem GMachine.subv_Told (x : GMachine) : List.take 18 (List.drop 5 (x.enc.map V.d)) = x.Told.enc.map V.d := rfl
structure GIns where
  Op : Int
  Arg : Int
  deriving DecidableEq
def GIns.enc (x : GIns) : List D := [D.v (.int .i64 x.Op), D.v (.int .i64 x.Arg)]
@[simp] theorem GIns.enc_length (x : GIns) : x.enc.length = 2 := rfl
@[simp] theorem GIns.enc_0 (x : GIns) : x.enc[0]? = some (D.v (.int .i64 x.Op)) := rfl
@[simp] theorem GIns.encg_0 (x : GIns) (h : 0 < x.enc.length) : x.enc[0] = D.v (.int .i64 x.Op) := rfl
@[simp] theorem GIns.enc_1 (x : GIns) : x.enc[1]? = some (D.v (.int .i64 x.Arg)) := rfl
@[simp] theorem GIns.encg_1 (x : GIns) (h : 1 < x.enc.length) : x.enc[1] = D.v (.int .i64 x.Arg) := rfl
@[simp] theorem GIns.fzV (L : Heap) (x : GIns) : V.fzs L (x.enc.map V.d) = x.enc.map V.d := by simp [GIns.enc, V.fzs, V.fz]
def GIns.zero : GIns := ⟨0, 0⟩
theorem GIns.zero_enc : GIns.zero.enc = [D.v (.int .i64 0), D.v (.int .i64 0)] := rfl
@[simp] theorem GIns.getZ (o : Option GIns) : (o.map GIns.enc).getD [D.v (.int .i64 0), D.v (.int .i64 0)] = (o.getD GIns.zero).enc := by cases o <;> rfl
@[simp] theorem GIns.dropAll (x : GIns) : List.drop 2 x.enc = [] := rfl
@[simp] theorem GIns.dropAllv (x : GIns) : List.drop 2 (x.enc.map V.d) = [] := rfl
@[simp] theorem GIns.enc_all (x : GIns) : x.enc.take 2 = x.enc := rfl
@[simp] theorem GIns.enc_allv (x : GIns) : List.take 2 (x.enc.map V.d) = x.enc.map V.d := rfl
end Go.Ab

namespace Go.Ab
section
variable {P : Program} {n : Nat} {s : St} {Q : AX → St → Prop} {L : Heap}
structure Pure (P : Program) (f : FuncId) (args : List V) (x : V) : Prop where
  en : enters P f = true
  on : V.ons [] args = true
  rn : x.on [] = true
  calls : ACalls P f args [] (fun r _ => r = .ret x)
theorem Pure.run {f : FuncId} {args : List V} {x : V} {fn : Func} {c : Code} (hf : P.funcs[f]? = some fn) (hb : fn.body = some c) (hs : args.length ≤ fn.ntmps ∧ enters P f = true ∧ V.ons [] args = true ∧ x.on [] = true)
    (h : codeK P fn.ntmps c ⟨argFrame 0 args, []⟩ (kontK P fn.ntmps (FPost P fn.results.toList (fun r L' => ∃ y, r = .ret y ∧ y.fz L' = x)) [])) : Pure P f args x :=
  ⟨hs.2.1, hs.2.2.1, hs.2.2.2, (ACalls.data (ACalls.run hf hb hs.1 h) hs.2.2.2).mono fun _ _ h => h.1⟩
theorem Pure.eq {f : FuncId} {args args' : List V} {x x' : V} (h : Pure P f args x) (ha : args = args') (hx : x = x') : Pure P f args' x' := by subst ha; subst hx; exact h
theorem Pure.ok {f : FuncId} {args : List V} {x : V} (h : Pure P f args x) (L : Heap) : OKCall P f args L x := OKCall.pure h.en h.on h.rn h.calls
structure Kept (P : Program) (f : FuncId) (args : List V) (L1 : Heap) (x : V) : Prop where
  en : enters P f = true
  on : V.ons (keys L1) args = true
  onL : L1.all (fun p => Res.on (keys L1) p.2 && isBox p.2) = true
  rn : x.scal = true
  calls : ACalls P f args L1 (fun r L' => r = .ret x ∧ L' = L1)
theorem AOps.pureC {ops : Array Oper} {o : Oper} {rest : List Oper} {c : Call} {f : FuncId} {args : List V} {x : V} (hop : o.op = .call c) (h : Pure P f args x) (hc : callee s.ev c = some (f, args)) (hg : o.guard = none)
    (hd : ∀ d, o.dst = some d → d < n) (hr : dstsOk n rest = true) (k : ∀ bs, runC P ops rest (s.put o.dst x) bs [] (KK P n ops Q)) : AOps P n ops (o :: rest) s Q :=
  AOps.quietT hg hd (OpT.call hop hc h.en h.on h.rn h.calls) (runC_sound rest _ [] hr k)
theorem AOps.lendC {ops : Array Oper} {o : Oper} {rest : List Oper} {c : Call} {f : FuncId} {args args' : List V} {x : V} (hop : o.op = .call c) (h : Pure P f args' x) (hc : callee s.ev c = some (f, args)) (ha : V.fzs s.L args = args') (hx : x.scal = true) (hg : o.guard = none)
    (hd : ∀ d, o.dst = some d → d < n) (hr : dstsOk n rest = true) (k : ∀ bs, runC P ops rest (s.put o.dst x) bs [] (KK P n ops Q)) : AOps P n ops (o :: rest) s Q := by
  subst ha
  exact AOps.quietT hg hd (OpT.lend hop hc h.en h.on hx h.calls) (runC_sound rest _ [] hr k)
theorem AOps.effC {ops : Array Oper} {o : Oper} {rest : List Oper} {c : Call} {f : FuncId} {args : List V} {L1 : Heap} {R : AE → Heap → Prop} (hs : List Nat) (hop : o.op = .call c) (h : ACalls P f args L1 R) (hc : callee s.ev c = some (f, args)) (hg : o.guard = none)
    (hd : ∀ d, o.dst = some d → d < n) (hr : dstsOk n rest = true) (he : enters P f = true) (hL : s.L.filter (fun p => hs.contains p.1) = L1)
    (ho : V.ons (keys L1) args = true) (hon : L1.all (fun p => Res.on (keys L1) p.2) = true)
    (hfr : s.fr.all (fun p => V.on (keys (s.L.filter fun p => !hs.contains p.1) ++ (L1.filterMap fun p => match p.2 with | .box (_ + 1) _ _ => some p.1 | _ => none)) p.2) = true)
    (hL2 : (s.L.filter fun p => !hs.contains p.1).all (fun p => Res.on (keys (s.L.filter fun p => !hs.contains p.1) ++ (L1.filterMap fun p => match p.2 with | .box (_ + 1) _ _ => some p.1 | _ => none)) p.2) = true)
    (hstay : ∀ r L1', R r L1' → (∃ x, r = .ret x) ∧ (∀ k ∈ keys L1', k ∉ keys (s.L.filter fun p => !hs.contains p.1)) ∧ ∀ k b ty cs, (k, Res.box (b + 1) ty cs) ∈ L1 → ∃ ty' cs', (k, Res.box (b + 1) ty' cs') ∈ L1')
    (k : ∀ x L1', R (.ret x) L1' → ∀ bs, runC P ops rest (St.put { s with L := L1' ++ s.L.filter fun p => !hs.contains p.1 } o.dst x) bs [] (KK P n ops Q)) : AOps P n ops (o :: rest) s Q :=
  AOps.callG (L1 := L1) (L2 := s.L.filter fun p => !hs.contains p.1) hg hd hop hc he ho (by subst hL; exact (List.filter_append_perm _ s.L).symm) hon (fun p hp => List.all_eq_true.1 hfr p hp) (fun p hp => List.all_eq_true.1 hL2 p hp) h hstay
    (fun x L1' hR => runC_sound rest _ [] hr (k x L1' hR))
def boxAt : Res → Option Nat
  | .box b _ _ => some b
  | _ => none
attribute [simp] boxAt
theorem AOps.effD {ops : Array Oper} {o : Oper} {rest : List Oper} {c : Call} {f : FuncId} {args : List V} {L1 L1' : Heap} {x : V} (hs : List Nat) (hop : o.op = .call c) (h : ACalls P f args L1 (fun r L => r = .ret x ∧ L = L1')) (hc : callee s.ev c = some (f, args)) (hg : o.guard = none)
    (hd : ∀ d, o.dst = some d → d < n) (hr : dstsOk n rest = true) (he : enters P f = true) (hL : s.L.filter (fun p => hs.contains p.1) = L1)
    (ho : V.ons (keys L1) args = true ∧ L1.all (fun p => Res.on (keys L1) p.2) = true ∧ L1.all (fun p => !isBox p.2 || L1'.any (fun q => q.1 == p.1 && (isBox q.2 && boxAt q.2 == boxAt p.2))) = true)
    (hfr : s.fr.all (fun p => V.on (keys (s.L.filter fun p => !hs.contains p.1) ++ keys (L1.filter fun p => isBox p.2)) p.2) = true)
    (hL2 : (s.L.filter fun p => !hs.contains p.1).all (fun p => Res.on (keys (s.L.filter fun p => !hs.contains p.1) ++ keys (L1.filter fun p => isBox p.2)) p.2) = true)
    (hk : (keys L1').all (fun k => !(keys (s.L.filter fun p => !hs.contains p.1)).contains k) = true)
    (k : ∀ bs, runC P ops rest (St.put { s with L := L1' ++ s.L.filter fun p => !hs.contains p.1 } o.dst x) bs [] (KK P n ops Q)) : AOps P n ops (o :: rest) s Q := by
  have hbx : (L1.filterMap fun p => match p.2 with | .box (_ + 1) _ _ => some p.1 | _ => none) = keys (L1.filter fun p => isBox p.2) := by
    generalize L1 = l
    induction l with
    | nil => rfl
    | cons p l ih =>
      obtain ⟨a, r⟩ := p
      cases r with
      | box b ty cs =>
        cases b with
        | succ b => simp only [List.filterMap_cons, List.filter_cons, isBox, if_true, keys, List.map_cons, ih]
        | zero =>
          simp only [List.filterMap_cons, List.filter_cons, isBox, ih]
          simp
      | row ty k xs =>
        simp only [List.filterMap_cons, List.filter_cons, isBox, ih]
        simp
      | env A =>
        simp only [List.filterMap_cons, List.filter_cons, isBox, ih]
        simp
      | mp es =>
        simp only [List.filterMap_cons, List.filter_cons, isBox, ih]
        simp
  refine AOps.effC hs hop h hc hg hd hr he hL ho.1 ho.2.1 (by rw [hbx]; exact hfr) (by rw [hbx]; exact hL2) ?_ ?_
  · rintro r L1'' ⟨rfl, rfl⟩
    refine ⟨⟨_, rfl⟩, fun k hk' => ?_, fun k b ty cs hm => ?_⟩
    · have := List.all_eq_true.1 hk k hk'
      simpa using this
    · have := List.all_eq_true.1 ho.2.2 _ hm
      simp only [isBox, Bool.not_true, Bool.false_or, List.any_eq_true, Bool.and_eq_true, beq_iff_eq] at this
      obtain ⟨⟨a, r⟩, h1, h2, h3, h4⟩ := this
      simp only at h2
      subst h2
      cases r with
      | box b' ty' cs' =>
        simp only [boxAt, Option.some.injEq] at h4
        subst h4
        exact ⟨ty', cs', h1⟩
      | row _ _ _ => simp at h3
      | env _ => simp at h3
      | mp _ => simp at h3
  · rintro x' L1'' ⟨e, rfl⟩
    obtain rfl := AE.ret.inj e
    exact k
def upF (fr : List (Nat × V)) (ov : List (Nat × V)) : List (Nat × V) := fr.map fun p => (p.1, (ov.lookup p.1).getD p.2)
def upL (L : Heap) (ov : List (Nat × Res)) : Heap := L.map fun p => (p.1, (ov.lookup p.1).getD p.2)
def St.up (s : St) (F : List (Nat × V)) (R : List (Nat × Res)) : St := ⟨upF s.fr F, upL s.L R⟩
def LoopS (ts hs : List Nat) (S : Nat → St) (N : Nat) (H : Nat → Prop) (i : Nat) (s : St) : Prop := (s.pick ts hs).on (keys (s.pick ts hs).L) = true ∧ i < N ∧ s.pick ts hs = S (i + 1) ∧ H (i + 1)
theorem AWP.loopS {c : Code} {ks : List KI} (ts : List Nat) (N : Nat) (F : Nat → List (Nat × V)) (R : Nat → List (Nat × Res)) (H : Nat → Prop) (ht : ts.all (fun t => decide (t < n)) = true)
    (h0 : (keys s.L).Nodup ∧ (s.pick ts (keys s.L)).on (keys (s.pick ts (keys s.L)).L) = true ∧ s.pick ts (keys s.L) = (s.pick ts (keys s.L)).up (F 0) (R 0) ∧ H 0)
    (round : ∀ i, i ≤ N → H i → codeK P n c ((s.pick ts (keys s.L)).up (F i) (R i)) (kontK P n Q (.inv (LoopS ts (keys s.L) (fun i => (s.pick ts (keys s.L)).up (F i) (R i)) N H i) :: ks))) :
    AWP P n (.loop c) s (kontK P n Q ks) := by
  obtain ⟨h1, h2, h3, h4⟩ := h0
  refine AWP.weaken (Wk.pick ts (keys s.L) ht h1 h2) (AWP.loop (fun k st => ∃ i, k = N - i ∧ i ≤ N ∧ H i ∧ st = (s.pick ts (keys s.L)).up (F i) (R i)) ⟨N, 0, rfl, Nat.zero_le _, h4, h3⟩ ?_)
  rintro k st ⟨i, rfl, hi, hH, rfl⟩
  refine AWP.mono (codeK_sound _ _ _ (round i hi hH)) (fun x s' h => ?_)
  cases x with
  | normal =>
    obtain ⟨a1, a2, a3, a4⟩ := h
    exact ⟨N - (i + 1), by omega, _, Wk.pick ts (keys s.L) ht h1 a1, i + 1, rfl, by omega, a4, a3⟩
  | _ => exact h
def Res.rlx : Res → Res
  | .box _ ty cs => .box 0 ty cs
  | r => r
def St.rlx (rs : List Nat) (s : St) : St := ⟨s.fr, s.L.map fun p => (p.1, if rs.contains p.1 then p.2.rlx else p.2)⟩
theorem Wk.rlx (rs : List Nat) : Wk n s (s.rlx rs) := by
  intro fo m a w g
  have hi := g.inv
  have hk : keys (St.rlx rs s).L = keys s.L := by simp [keys, St.rlx, Function.comp_def]
  refine ⟨m, ⟨g.size, g.fr, ⟨by rw [hk]; exact hi.nodup, fun h x hx => by rw [hk]; exact hi.dom h x hx, hi.apart, hi.others, hi.folt, ?_, hi.glob⟩, g.defers⟩, Step.refl w _⟩
  intro h r hr
  obtain ⟨p, hp, he⟩ := List.mem_map.1 hr
  simp only [Prod.mk.injEq] at he
  obtain ⟨rfl, rfl⟩ := he
  obtain ⟨x, hx, hh⟩ := hi.holds p.1 p.2 hp
  refine ⟨x, hx, ?_⟩
  split
  · generalize p.2 = q at hh
    cases q with
    | row ty k xs => exact hh
    | env A => exact hh
    | mp es => exact hh
    | box b ty cs =>
      obtain ⟨bb, _, h1⟩ := hh
      exact ⟨bb, .inl rfl, h1⟩
  · exact hh
def LoopR (rs ts hs : List Nat) (S : Nat → St) (N : Nat) (H : Nat → Prop) (i : Nat) (s : St) : Prop := (s.pick ts hs).on (keys (s.pick ts hs).L) = true ∧ i < N ∧ (s.pick ts hs).rlx rs = S (i + 1) ∧ H (i + 1)
attribute [simp] Res.rlx St.rlx LoopR
def LoopW (n : Nat) (S : Nat → St) (N : Nat) (H : Nat → Prop) (i : Nat) (s : St) : Prop := i < N ∧ H (i + 1) ∧ Wk n s (S (i + 1))
attribute [simp] upF upL St.up LoopS LoopW
@[simp] theorem dd_getElem (ys : List (List D)) (i : Nat) (h : i < (dd ys).length) : (dd ys)[i]'h = (ys[i]'(by simpa using h)).map V.d := by simp [dd]
@[simp] theorem encS_getElem (l : List ByteArray) (i : Nat) (h : i < (encS l).length) : (encS l)[i]'h = [.v (.string (l[i]'(by simpa using h)))] := by simp [encS]
@[simp] theorem encSl_getElem {α : Type} (g : List α → List (List D)) (l : List (List α)) (i : Nat) (h : i < (encSl g l).length) : (encSl g l)[i]'h = [.sl (g (l[i]'(by simpa [encSl] using h)))] := by simp [encSl]
@[simp] theorem encI_getElem (l : List Int) (i : Nat) (h : i < (encI l).length) : (encI l)[i]'h = [.v (.int .i64 (l[i]'(by simpa using h)))] := by simp [encI]
end
end Go.Ab

namespace Go.Ab
section
variable {P : Program} {n : Nat} {s : St} {Q : AX → St → Prop} {L : Heap}
def LoopL {α : Type} (ts hs : List Nat) (S : List α → St) (H : List α → Prop) (pre : List α) (x : α) (s : St) : Prop := (s.pick ts hs).on (keys (s.pick ts hs).L) = true ∧ s.pick ts hs = S (pre ++ [x]) ∧ H (pre ++ [x])
theorem AWP.loopL {α : Type} {c : Code} {ks : List KI} (ts : List Nat) (l : List α) (F : List α → List (Nat × V)) (R : List α → List (Nat × Res)) (H : List α → Prop) (ht : ts.all (fun t => decide (t < n)) = true) (hl : l.length ≤ 1000000000000000)
    (h0 : (keys s.L).Nodup ∧ (s.pick ts (keys s.L)).on (keys (s.pick ts (keys s.L)).L) = true ∧ s.pick ts (keys s.L) = (s.pick ts (keys s.L)).up (F []) (R []) ∧ H [])
    (round : ∀ pre x post, l = pre ++ x :: post → H pre → (hlt : pre.length < l.length) → l[pre.length] = x → inR .i64 ((pre.length : Int) + 1) →
      codeK P n c ((s.pick ts (keys s.L)).up (F pre) (R pre)) (kontK P n Q (.inv (LoopL ts (keys s.L) (fun l => (s.pick ts (keys s.L)).up (F l) (R l)) H pre x) :: ks)))
    (last : H l → codeK P n c ((s.pick ts (keys s.L)).up (F l) (R l)) (kontK P n Q (.inv (fun _ => False) :: ks))) :
    AWP P n (.loop c) s (kontK P n Q ks) := by
  obtain ⟨h1, h2, h3, h4⟩ := h0
  refine AWP.weaken (Wk.pick ts (keys s.L) ht h1 h2) (AWP.loop (fun k st => ∃ pre post, l = pre ++ post ∧ k = post.length ∧ H pre ∧ st = (s.pick ts (keys s.L)).up (F pre) (R pre)) ⟨l.length, [], l, rfl, rfl, h4, h3⟩ ?_)
  rintro k st ⟨pre, post, hsp, rfl, hH, rfl⟩
  match post, hsp with
  | x :: post, hsp =>
    refine AWP.mono (codeK_sound _ _ _ (round pre x post hsp hH (by rw [hsp]; simp) (by simp [hsp]) (by rw [inR_i64]; rw [hsp] at hl; simp at hl; omega))) (fun y s' h => ?_)
    cases y with
    | normal =>
      obtain ⟨a1, a2, a3⟩ := h
      exact ⟨post.length, by simp, _, Wk.pick ts (keys s.L) ht h1 a1, pre ++ [x], post, by simp [hsp], rfl, a3, a2⟩
    | _ => exact h
  | [], hsp =>
    rw [List.append_nil] at hsp
    subst hsp
    refine AWP.mono (codeK_sound _ _ _ (last hH)) (fun y s' h => ?_)
    cases y with
    | normal => exact h.elim
    | _ => exact h
end
attribute [simp] LoopL
end Go.Ab

namespace Go.Ab
section
variable {P : Program} {n : Nat} {s : St} {Q : AX → St → Prop} {ops : Array Oper}
theorem Oper.uponIn_mono {F : Fence} {d : Nat} {o : Oper} {a : Act} {next next' : Act → World → Prop} {Q1 Q2 : Exit → Act → World → Prop} (hn : ∀ a w, next a w → next' a w) (he : ∀ e a w, e ≠ .normal → Q1 e a w → Q2 e a w) {r : Result Next} (h : o.uponIn F d P a next Q1 r) : o.uponIn F d P a next' Q2 r := by
  cases r with
  | ok x w' =>
    cases x <;> simp only [Oper.uponIn] at h ⊢ <;>
      first
        | exact hn _ _ h
        | exact ⟨h.1, CallsIn.mono h.2 (fun e w'' hh => by cases e <;> first | exact hn _ _ hh | exact he _ _ _ (by simp) hh | (obtain ⟨a0, w0, hq⟩ := hh; exact ⟨a0, w0, he _ _ _ (by simp) hq⟩))⟩
        | exact ⟨h.1, RowsIn.mono h.2 (fun _ _ hh => hn _ _ hh)⟩
        | exact ⟨h.1, RoundIn.mono h.2 (fun e w'' hh => by cases e <;> first | exact hn _ _ hh | exact he _ _ _ (by simp) hh | (obtain ⟨a0, w0, hq⟩ := hh; exact ⟨a0, w0, he _ _ _ (by simp) hq⟩))⟩
  | halt x w' => cases x <;> simp only [Oper.uponIn] at h ⊢ <;> exact he _ _ _ (by simp) h
theorem wpList_app {F : Fence} {d : Nat} {Q1 Q2 : Exit → Act → World → Prop} {l2 : List Oper} (hn : ∀ a w, Q1 .normal a w → wpListIn F d P ops Q2 l2 a w) (he : ∀ e a w, e ≠ .normal → Q1 e a w → Q2 e a w) :
    ∀ (l1 : List Oper) (a : Act) (w : World), wpListIn F d P ops Q1 l1 a w → wpListIn F d P ops Q2 (l1 ++ l2) a w
  | [], a, w, h => hn a w h
  | o :: l1, a, w, h => by
    rw [List.cons_append]
    unfold wpListIn at h ⊢
    split
    · rename_i hw
      rw [if_pos hw] at h
      exact ⟨h.1, Oper.uponIn_mono (fun a w => wpList_app hn he l1 a w) he h.2⟩
    · rename_i hw
      rw [if_neg hw] at h
      exact ⟨h.1, wpList_app hn he l1 _ _ h.2⟩
theorem wpListIn_mono {F : Fence} {d : Nat} {Q1 Q2 : Exit → Act → World → Prop} (he : ∀ e a w, Q1 e a w → Q2 e a w) : ∀ (l : List Oper) (a : Act) (w : World), wpListIn F d P ops Q1 l a w → wpListIn F d P ops Q2 l a w
  | [], a, w, h => he _ a w h
  | o :: l, a, w, h => by
    unfold wpListIn at h ⊢
    split
    · rename_i hw
      rw [if_pos hw] at h
      exact ⟨h.1, Oper.uponIn_mono (fun a w => wpListIn_mono he l a w) (fun e a w _ => he e a w) h.2⟩
    · rename_i hw
      rw [if_neg hw] at h
      exact ⟨h.1, wpListIn_mono he l _ _ h.2⟩
theorem AOps.app {l1 l2 : List Oper} (h : AOps P n ops l1 s (AX.then (fun s' => AOps P n ops l2 s' Q) Q)) : AOps P n ops (l1 ++ l2) s Q := by
  intro fo m0 w0 m a w st g
  refine wpList_app (fun a1 w1 h1 => ?_) (fun e a1 w1 hne h1 => ?_) l1 a w (h fo m0 w0 m a w st g)
  · obtain ⟨ms, m', x, s', hm, hq, g', hx, st'⟩ := h1
    cases x <;> simp only [Exits] at hx
    refine wpListIn_mono (fun _ _ _ => Post.marked hm g' st') _ _ _ (hq (fo.mark ms) m' w1 m' a1 w1 (Step.refl _ _) g')
  · obtain ⟨ms, m', x, s', hm, hq, g', hx, st'⟩ := h1
    refine ⟨ms, m', x, s', hm, ?_, g', hx, st'⟩
    cases x with
    | normal => cases e <;> simp only [Exits] at hx; exact (hne rfl).elim
    | _ => exact hq
theorem AOps.stop {l : List Oper} (k : Nat) (us : List V) (hd : dstsOk n (l.take k) = true) (h : ∀ bs, runC P ops (l.take k) s bs us (KK P n ops (AX.then (fun s' => AOps P n ops (l.drop k) s' Q) Q))) : AOps P n ops l s Q := by
  rw [← List.take_append_drop k l]
  exact AOps.app (runC_sound _ _ us hd h)
theorem AWP.regionS {id : Nat} {l : List Oper} (h : AOps P n l.toArray l s Q) : AWP P n (.region id l.toArray false) s Q :=
  fun fo m a w _ g => wp_region_toList (by simpa using h fo m w m a w (Step.refl _ _) g)
theorem AOps.subG {o : Oper} {rest : List Oper} {g : Bool} {t : TypeId} {xo yo : Operand} {ty : TypeId} {a b : Int} (hop : o.op = .binOp .sub t xo yo ty) (hgd : guardV ops s o = some (some g)) (hd : ∀ d, o.dst = some d → d < n)
    (hx : (s.ev xo).un = .d (.v (.int .i64 a)) ∧ (s.ev yo).un = .d (.v (.int .i64 b))) (hu : g = true → uncs s o.op.operands.toList)
    (k : AOps P n ops rest (s.put o.dst (.gd g (.d (.v (.int .i64 (IntKind.i64.wrap (a - b))))))) Q) : AOps P n ops (o :: rest) s Q := by
  refine AOps.guarded hgd hd (fun hg => ⟨fun z => (s.ev z).un, fun z hz w O m v hr => un_rel hr (uncs_mem (hu hg) z (by simpa using hz)), ?_⟩) k
  intro fo m ρ w hi hr
  have h1 := hr xo (by rw [hop]; simp [Op.operands])
  have h2 := hr yo (by rw [hop]; simp [Op.operands])
  simp only [hx.1] at h1
  simp only [hx.2] at h2
  have e1 := h1.v_inv
  have e2 := h2.v_inv
  refine ⟨.int .i64 (IntKind.i64.wrap (a - b)), ?_, .d _ _ (.v _ rfl)⟩
  simp [execOp, hop, e1, e2, eqGuard, binOp, Op.intArith]
theorem AOps.pureG {o : Oper} {rest : List Oper} {c : Call} {f : FuncId} {args : List V} {x : V} {g : Bool} (hop : o.op = .call c) (h : g = true → Pure P f args x) (hc : callee (fun z => (s.ev z).un) c = some (f, args)) (hgd : guardV ops s o = some (some g)) (hu : g = true → uncs s o.op.operands.toList)
    (hd : ∀ d, o.dst = some d → d < n) (hr : dstsOk n rest = true) (k : ∀ bs, runC P ops rest (s.put o.dst (.gd g x)) bs [] (KK P n ops Q)) : AOps P n ops (o :: rest) s Q :=
  AOps.guardedT hgd hd (fun hg => ⟨fun z => (s.ev z).un, fun z hz w O m v hr => un_rel hr (uncs_mem (hu hg) z (by simpa using hz)), OpT.call hop hc (h hg).en (h hg).on (h hg).rn (h hg).calls⟩) (runC_sound rest _ [] hr k)
theorem AWP.seqK {x y : Code} (h : codeK P n x s (kontK P n (AX.then (fun s' => AWP P n y s' Q) Q) [])) : AWP P n (.seq x y) s Q := AWP.seq (codeK_sound _ _ _ h)
theorem Pure.runA {f : FuncId} {args : List V} {x : V} {fn : Func} {c : Code} (hf : P.funcs[f]? = some fn) (hb : fn.body = some c) (hs : args.length ≤ fn.ntmps ∧ enters P f = true ∧ V.ons [] args = true ∧ x.on [] = true)
    (h : AWP P fn.ntmps c ⟨argFrame 0 args, []⟩ (kontK P fn.ntmps (FPost P fn.results.toList (fun r L' => ∃ y, r = .ret y ∧ y.fz L' = x)) [])) : Pure P f args x :=
  ⟨hs.2.1, hs.2.2.1, hs.2.2.2, (ACalls.data (ACalls.of_AWP hf hb hs.1 h) hs.2.2.2).mono fun _ _ h => h.1⟩
end
end Go.Ab

namespace Go.Ab
section
variable {P : Program} {n : Nat} {s : St} {Q : AX → St → Prop} {L : Heap} {b N : Nat} {ty : TypeId} {k : Nat} {A : Nat → List (List D)}
theorem Wk.ownBox (c i h : Nat) {e k : Nat} {bk : Nat} {bt : TypeId} {cs : List V} (hl : s.L.lookup c = some (.box bk bt cs)) (hi : cs[i]? = some (.d (.v (.slice none 0 0)))) (hn : h ∉ keys s.L) :
    Wk n s ⟨s.fr, (h, .row e k []) :: Heap.upd s.L c (.box bk bt (cs.set i (.rv h)))⟩ := by
  intro fo m a w g
  obtain ⟨g', st⟩ := g.new (Grows.refl w) hn (x := .slice none 0 0) (r := .row e k []) (by intro b hb; simp [blk, blk1] at hb) (.inl ⟨rfl, rfl⟩)
  refine ⟨_, ⟨g'.size, g'.fr, ?_, g'.defers⟩, st⟩
  have hi' := g'.inv
  have hkey : keys ((h, Res.row e k []) :: Heap.upd s.L c (.box bk bt (cs.set i (.rv h)))) = keys ((h, Res.row e k []) :: s.L) := by
    have := keys_upd s.L c (.box bk bt (cs.set i (.rv h)))
    simp only [keys, List.map_cons] at this ⊢
    rw [this]
  have hmem := lookup_mem hl
  refine ⟨by rw [hkey]; exact hi'.nodup, fun j x hx => by rw [hkey]; exact hi'.dom j x hx, hi'.apart, hi'.others, hi'.folt, ?_, hi'.glob⟩
  intro j r hr
  rcases List.mem_cons.1 hr with hr | hr
  · exact hi'.holds j r (by rw [hr]; exact List.mem_cons_self)
  · unfold Heap.upd at hr
    obtain ⟨p, hp, he⟩ := List.mem_map.1 hr
    split at he
    · rename_i hpc
      simp only [Prod.mk.injEq] at he
      obtain ⟨rfl, rfl⟩ := he
      obtain ⟨x, hx, hh⟩ := hi'.holds c _ (List.mem_cons_of_mem _ hmem)
      refine ⟨x, hx, ?_⟩
      obtain ⟨bb, hbb, cur, e1, e2, e3, e4, e5⟩ := hh
      refine ⟨bb, hbb, cur, e1, e2, by simpa using e3, e4, fun l v y hv hy => ?_⟩
      rw [List.getElem?_set] at hy
      split at hy
      · rename_i hil
        subst hil
        split at hy
        · simp only [Option.some.injEq] at hy
          subst hy
          have := e5 i v _ hv hi
          rw [this.bool_inv]
          exact .rv h _ (mset_same _ _) rfl
        · cases hy
      · exact e5 l v y hv hy
    · rw [he] at hp
      exact hi'.holds j r (List.mem_cons_of_mem _ hp)
@[simp] theorem encI_replicate (N : Nat) (v : Int) : List.replicate N [V.d (.v (.int .i64 v))] = dd (encI (List.replicate N v)) := by simp [dd, encI]
mutual
def V.ren (h g : Nat) : V → V
  | .bp i o => if i = h then .bp g o else .bp i o
  | .rv i => if i = h then .rv g else .rv i
  | .ep i k x y => if i = h then .ep g k x y else .ep i k x y
  | .clo fn f c => .clo fn (V.rens h g f) (V.rens h g c)
  | .agg cs => .agg (V.rens h g cs)
  | .tup cs => .tup (V.rens h g cs)
  | .gd b x => .gd b (V.ren h g x)
  | .d x => .d x
  | .rp cs => .rp cs
  | .sv i n => if i = h then .sv g n else .sv i n
  | .kn Q => .kn Q
  | .any => .any
def V.rens (h g : Nat) : List V → List V
  | [] => []
  | x :: l => V.ren h g x :: V.rens h g l
end
theorem rens_eq (h g : Nat) : ∀ l : List V, V.rens h g l = l.map (V.ren h g)
  | [] => by simp [V.rens]
  | x :: l => by simp [V.rens, rens_eq h g l]
theorem rens_d (h g : Nat) (l : List D) : V.rens h g (l.map V.d) = l.map V.d := by
  rw [rens_eq, List.map_map]
  apply List.map_congr_left
  intro x _
  simp [V.ren]
def Res.ren (h g : Nat) : Res → Res
  | .box b ty cs => .box b ty (V.rens h g cs)
  | .row ty k xs => .row ty k (xs.map (V.rens h g))
  | .env A => .env A
  | .mp es => .mp es
theorem ren_dd (h g : Nat) (ys : List (List D)) : (dd ys).map (V.rens h g) = dd ys := by
  unfold dd
  rw [List.map_map]
  apply List.map_congr_left
  intro x _
  simp [rens_d]
def St.ren (h g : Nat) (s : St) : St := ⟨s.fr.map fun p => (p.1, p.2.ren h g), s.L.map fun p => (if p.1 = h then g else p.1, p.2.ren h g)⟩
theorem RelV.ren {w : World} {O : Nat → Prop} {m m' : Nat → Option Value} {h g : Nat} (hm : ∀ i x, i ≠ h → m i = some x → m' i = some x) (hg : ∀ x, m h = some x → m' g = some x) {x : Value} {y : V} (hr : RelV w O m x y) : RelV w O m' x (y.ren h g) := by
  induction hr with
  | d x y hd => simpa [V.ren] using RelV.d x y hd
  | bp i off b e =>
    simp only [V.ren]
    split
    · rename_i he; subst he; exact .bp g off b (hg _ e)
    · rename_i hne; exact .bp i off b (hm _ _ hne e)
  | rv i x e e1 =>
    simp only [V.ren]
    split
    · rename_i he; subst he; exact .rv g x (hg _ e) e1
    · rename_i hne; exact .rv i x (hm _ _ hne e) e1
  | ep i k p q b o n c e =>
    simp only [V.ren]
    split
    · rename_i he; subst he; exact .ep g k p q b o n c (hg _ e)
    · rename_i hne; exact .ep i k p q b o n c (hm _ _ hne e)
  | rp b off cs f hb hlt hc hr => simpa [V.ren] using RelV.rp b off cs f hb hlt hc hr
  | sv i n b cap e hc hx =>
    simp only [V.ren]
    split
    · rename_i he; subst he; exact .sv g n b cap (hg _ e) hc hx
    · rename_i hne; exact .sv i n b cap (hm _ _ hne e) hc hx
  | clo fn first caps cf cc s1 s2 h1 h2 ih1 ih2 =>
    simp only [V.ren, rens_eq]
    refine .clo fn first caps _ _ (by simpa using s1) (by simpa using s2) ?_ ?_
    · intro j x y hx hy
      rw [List.getElem?_map] at hy
      obtain ⟨z, hz, rfl⟩ := Option.map_eq_some_iff.1 hy
      exact ih1 j x z hx hz
    · intro j x y hx hy
      rw [List.getElem?_map] at hy
      obtain ⟨z, hz, rfl⟩ := Option.map_eq_some_iff.1 hy
      exact ih2 j x z hx hz
  | agg vs cs hs h1 h2 ih =>
    simp only [V.ren, rens_eq]
    refine .agg vs _ (by simpa using hs) h1 ?_
    intro j x y hx hy
    rw [List.getElem?_map] at hy
    obtain ⟨z, hz, rfl⟩ := Option.map_eq_some_iff.1 hy
    exact ih j x z hx hz
  | tup vs cs hs h2 ih =>
    simp only [V.ren, rens_eq]
    refine .tup vs _ (by simpa using hs) ?_
    intro j x y hx hy
    rw [List.getElem?_map] at hy
    obtain ⟨z, hz, rfl⟩ := Option.map_eq_some_iff.1 hy
    exact ih j x z hx hz
  | gt x y hr ih => simpa [V.ren] using RelV.gt x _ ih
  | gf y => simpa [V.ren] using RelV.gf (y.ren h g)
  | kn x Q h => simpa [V.ren] using RelV.kn x Q h
  | any x => simpa [V.ren] using RelV.any x
theorem Res.Holds.ren {w : World} {O : Nat → Prop} {m m' : Nat → Option Value} {h g : Nat} (hm : ∀ i x, i ≠ h → m i = some x → m' i = some x) (hg : ∀ x, m h = some x → m' g = some x) {x : Value} {r : Res} (hh : r.Holds w O m x) : (r.ren h g).Holds w O m' x := by
  cases r with
  | box b ty cs =>
    obtain ⟨bb, hbb, cur, rfl, h1, h2, h3, h4⟩ := hh
    simp only [Res.ren, rens_eq]
    refine ⟨bb, hbb, cur, rfl, h1, by simpa using h2, h3, fun j v c hv hc => ?_⟩
    rw [List.getElem?_map] at hc
    obtain ⟨z, hz, rfl⟩ := Option.map_eq_some_iff.1 hc
    exact (h4 j v z hv hz).ren hm hg
  | row ty k xs =>
    simp only [Res.ren]
    rcases hh with ⟨rfl, rfl⟩ | ⟨b, off, cap, cur, rfl, h1, h2, h3, h4, h5, h6, h7⟩
    · exact .inl ⟨rfl, rfl⟩
    · refine .inr ⟨b, off, cap, cur, by simp, h1, by simpa using h2, h3, h4, fun i x hx => ?_, h6, fun i j x y v hx hy hv => ?_⟩
      · rw [List.getElem?_map] at hx
        obtain ⟨z, hz, rfl⟩ := Option.map_eq_some_iff.1 hx
        rw [rens_eq, List.length_map]
        exact h5 i z hz
      · rw [List.getElem?_map] at hx
        obtain ⟨z, hz, rfl⟩ := Option.map_eq_some_iff.1 hx
        rw [rens_eq, List.getElem?_map] at hy
        obtain ⟨y', hy', rfl⟩ := Option.map_eq_some_iff.1 hy
        exact (h7 i j z y' v hz hy' hv).ren hm hg
  | env A => exact hh
  | mp es => exact hh
theorem Wk.ren (h g : Nat) (hg : g ∉ keys s.L) : Wk n s (s.ren h g) := by
  classical
  intro fo m a w gg
  let m' : Nat → Option Value := fun i => if i = g then m h else if i = h then none else m i
  have hi := gg.inv
  have hgn : ∀ x, m g ≠ some x := fun x hx => hg (hi.dom g x hx)
  have hm : ∀ i x, i ≠ h → m i = some x → m' i = some x := by
    intro i x hne hx
    have : i ≠ g := fun e => hgn x (e ▸ hx)
    simp only [m', if_neg this, if_neg hne]; exact hx
  have hmg : ∀ x, m h = some x → m' g = some x := fun x hx => by simp only [m', if_pos]; exact hx
  have hm' : ∀ i x, m' i = some x → ∃ j, m j = some x ∧ i = (if j = h then g else j) := by
    intro i x hx
    by_cases e : i = g
    · simp only [m', if_pos e] at hx; exact ⟨h, hx, by simp [e]⟩
    · simp only [m', if_neg e] at hx
      by_cases e2 : i = h
      · simp only [if_pos e2] at hx; cases hx
      · simp only [if_neg e2] at hx; exact ⟨i, hx, by rw [if_neg e2]⟩
  have hown : ∀ b, Ab.own m' b ↔ Ab.own m b := by
    intro b
    constructor
    · rintro ⟨i, x, hx, hb⟩
      obtain ⟨j, hj, _⟩ := hm' i x hx
      exact ⟨j, x, hj, hb⟩
    · rintro ⟨i, x, hx, hb⟩
      by_cases e : i = h
      · subst e; exact ⟨g, x, hmg x hx, hb⟩
      · exact ⟨i, x, hm i x e hx, hb⟩
  have hO : ∀ b, b < w.heap.size → OO fo m' b → OO fo m b := fun b _ ho => ho.imp (hown b).1 id
  have hkey : ∀ i, i ∈ keys s.L → (if i = h then g else i) ∈ keys (s.ren h g).L := by
    intro i hi'
    obtain ⟨p, hp, rfl⟩ := List.mem_map.1 hi'
    exact List.mem_map.2 ⟨_, List.mem_map.2 ⟨p, hp, rfl⟩, rfl⟩
  refine ⟨m', ⟨gg.size, ?_, ?_, gg.defers⟩, ⟨rfl, rfl, rfl, Nat.le_refl _, fun _ _ _ => rfl, fun b _ ho => (hown b).1 ho⟩⟩
  · intro t x hx
    obtain ⟨p, hp, he⟩ := List.mem_map.1 hx
    simp only [Prod.mk.injEq] at he
    obtain ⟨rfl, rfl⟩ := he
    obtain ⟨h1, h2⟩ := gg.fr p.1 p.2 hp
    exact ⟨h1, (h2.ren hm hmg).mono (Keep.refl w _) hO (fun _ _ e => e)⟩
  · refine ⟨?_, ?_, ?_, ?_, hi.folt, ?_, hi.glob.mono (Keep.refl w _) hO⟩
    · have : keys (s.ren h g).L = (keys s.L).map fun i => if i = h then g else i := by
        simp [keys, St.ren, Function.comp_def]
      rw [this]
      have hnd := hi.nodup
      unfold List.Nodup at hnd ⊢
      rw [List.pairwise_map]
      refine List.Pairwise.imp_of_mem (fun {a b} ha hb hab => ?_) hnd
      have h1 : a ≠ g := fun e => hg (e ▸ ha)
      have h2 : b ≠ g := fun e => hg (e ▸ hb)
      split <;> split
      · rename_i e1 e2; exact (hab (e1.trans e2.symm)).elim
      · exact fun e => h2 e.symm
      · exact h1
      · exact hab
    · intro i x hx
      obtain ⟨j, hj, rfl⟩ := hm' i x hx
      exact hkey j (hi.dom j x hj)
    · intro i j x y b hx hy hb hb'
      obtain ⟨i', hi1, rfl⟩ := hm' i x hx
      obtain ⟨j', hj1, rfl⟩ := hm' j y hy
      rw [hi.apart i' j' x y b hi1 hj1 hb hb']
    · intro i x b hx hb
      obtain ⟨j, hj, _⟩ := hm' i x hx
      exact hi.others j x b hj hb
    · intro i r hr
      obtain ⟨p, hp, he⟩ := List.mem_map.1 hr
      simp only [Prod.mk.injEq] at he
      obtain ⟨rfl, rfl⟩ := he
      obtain ⟨x, hx, hh⟩ := hi.holds p.1 p.2 hp
      refine ⟨x, ?_, (hh.ren hm hmg).mono (fun _ _ => rfl) (Keep.refl w _) hO (fun _ _ e => e)⟩
      split
      · rename_i e; rw [e] at hx; exact hmg x hx
      · rename_i e; exact hm _ x e hx
attribute [simp] V.ren V.rens Res.ren St.ren rens_d ren_dd
def EPost (P : Program) (rs : List ResultVar) (R : AE → Heap → Prop) (hs : List Nat) (x : AX) (s : St) : Prop :=
  match x with
  | .normal | .ret => (s.pick [] hs).on (keys (s.pick [] hs).L) = true ∧ FPost P rs R .ret (s.pick [] hs)
  | _ => False
attribute [simp] EPost
end
end Go.Ab

namespace Go.Ab
section
variable {P : Program} {n : Nat} {s : St} {Q : AX → St → Prop} {ops : Array Oper}
theorem AOps.panic {o : Oper} {rest : List Oper} {xo : Operand} {t : TypeId} {ag : Bool} {cs : List D} (hop : o.op = .panic xo) (hx : s.ev xo = .d (.ifc t ag cs)) (hg : o.guard = none) (k : Q (.pan (.d (.ifc t ag cs))) s) : AOps P n ops (o :: rest) s Q := by
  intro fo m0 w0 m a w st g
  have hr := eval_rel g xo
  rw [hx] at hr
  obtain ⟨u, hv⟩ := ifc_inv hr.d_inv
  unfold wpListIn
  rw [if_pos (by simp [Region.wanted, hg])]
  have hrun : (execOp a.eval o).run P w = .halt (.panic (a.eval xo)) w := by
    simp [execOp, hop, hv, Instr.panic, goPanic]
  refine owp_panic (by simp [hop]) hrun ?_
  exact .of m (.pan (.d (.ifc t ag cs))) s k g ⟨_, [], rfl, by simp, hr⟩ st
def Leads (P : Program) : Next → World → (Ending → World → Prop) → Prop
  | .enter f args, w, R => Calls P f args w R
  | .round l f tmps assign body, w, R => RoundIn Fence.wide 0 P l f tmps assign body w R
  | _, _, _ => False
theorem Leads.mono {nx : Next} {w : World} {R R' : Ending → World → Prop} (h : Leads P nx w R) (hr : ∀ e w', R e w' → R' e w') : Leads P nx w R' := by
  cases nx <;> simp only [Leads] at h ⊢
  · exact Calls.mono h hr
  · exact RoundIn.mono h hr
theorem owp_leads {r : Option Nat} {o : Oper} {a : Act} {w w' : World} {nx : Next} {next : Act → World → Prop} {Q : Exit → Act → World → Prop} (hrun : (execOp a.eval o).run P w = .ok nx w')
    (h : Leads P nx w' fun
      | .returned v, w'' => next (a.put o.dst v) w''
      | .panicked chain, w'' => Q (.panic chain) a w''
      | .outgrown, _ => LetsOut Q) : o.wpIn (wr r) 0 P a w next Q := by
  refine ⟨fun _ _ => trivial, ?_⟩
  cases nx <;> simp only [Leads] at h
  · rw [sem_at (not_defer hrun (by simp)), hrun]
    exact ⟨fun h => by simp [wr, Fence.wide] at h, wr_calls h⟩
  · rw [sem_at (not_defer hrun (by simp)), hrun]
    exact ⟨fun h => by simp [wr, Fence.wide] at h, h⟩
theorem core {o : Oper} {L1 L2 : Heap} {R : AE → Heap → Prop}
    (hL : s.L.Perm (L1 ++ L2)) (hon : L1.all (fun p => Res.on (keys L1) p.2) = true)
    (hL2 : ∀ p ∈ L2, Res.on (keys L2 ++ (L1.filterMap fun p => match p.2 with | .box (_ + 1) _ _ => some p.1 | _ => none)) p.2 = true)
    (hstay : ∀ r L1', R r L1' → (∀ k ∈ keys L1', k ∉ keys L2) ∧ ∀ k b ty cs, (k, Res.box (b + 1) ty cs) ∈ L1 → ∃ ty' cs', (k, Res.box (b + 1) ty' cs') ∈ L1')
    {fo : FO} {m : Nat → Option Value} {a : Act} {w : World}
    (h : ∀ (fo1 : FO) (m1 : Nat → Option Value), (∀ b, OO fo1 m1 b ↔ OO fo m b) → (∀ h x, h ∈ keys L1 → m h = some x → m1 h = some x) → Inv fo1 m1 L1 w → ∃ nx, (execOp a.eval o).run P w = .ok nx w ∧ Leads P nx w (CPost fo1 m1 w R))
    (g : G fo n m s a w) {next : Act → World → Prop} {Q' : Exit → Act → World → Prop}
    (k : ∀ x L1' mm v w', R (.ret x) L1' → RelV w' (OO fo mm) mm v x → Inv fo mm (L1' ++ L2) w' → Step w (own m) w' (own mm) →
      (∀ h y, h ∈ keys L2 ++ (L1.filterMap fun p => match p.2 with | .box (_ + 1) _ _ => some p.1 | _ => none) → m h = some y → mm h = some y) →
      Keep w (OO fo m) w' → (∀ b, b < w.heap.size → OO fo mm b → OO fo m b) → next (a.put o.dst v) w')
    (kp : ∀ x L1' mm ch w', R (.pan x) L1' → Chain w' (OO fo mm) mm ch x → Inv fo mm (L1' ++ L2) w' → Step w (own m) w' (own mm) →
      (∀ h y, h ∈ keys L2 ++ (L1.filterMap fun p => match p.2 with | .box (_ + 1) _ _ => some p.1 | _ => none) → m h = some y → mm h = some y) →
      Keep w (OO fo m) w' → (∀ b, b < w.heap.size → OO fo mm b → OO fo m b) → Q' (.panic ch) a w') : o.wpIn (wr fo.r) 0 P a w next Q' := by
  classical
  have hi := g.inv
  have hkeys : ∀ x, x ∈ keys s.L ↔ x ∈ keys L1 ∨ x ∈ keys L2 := by
    intro x
    have : (keys s.L).Perm (keys (L1 ++ L2)) := hL.map _
    rw [this.mem_iff]
    simp [keys]
  have hnd : (keys L1).Nodup ∧ (keys L2).Nodup ∧ ∀ x, x ∈ keys L1 → x ∉ keys L2 := by
    have hp : (keys s.L).Perm (keys L1 ++ keys L2) := by simpa [keys] using hL.map (·.1)
    have := hp.nodup_iff.1 hi.nodup
    rw [List.nodup_append] at this
    exact ⟨this.1, this.2.1, fun x h1 h2 => this.2.2 x h1 x h2 rfl⟩
  let m1 : Nat → Option Value := fun h => if h ∈ keys L1 then m h else none
  let m2 : Nat → Option Value := fun h => if h ∈ keys L2 then m h else none
  have hm1 : ∀ h x, m1 h = some x → m h = some x ∧ h ∈ keys L1 := by
    intro h x hx
    by_cases hh : h ∈ keys L1
    · simp only [m1, if_pos hh] at hx; exact ⟨hx, hh⟩
    · simp only [m1, if_neg hh] at hx; cases hx
  have hm2 : ∀ h x, m2 h = some x → m h = some x ∧ h ∈ keys L2 := by
    intro h x hx
    by_cases hh : h ∈ keys L2
    · simp only [m2, if_pos hh] at hx; exact ⟨hx, hh⟩
    · simp only [m2, if_neg hh] at hx; cases hx
  have hm1' : ∀ h x, h ∈ keys L1 → m h = some x → m1 h = some x := fun h x hh hx => by simp only [m1, if_pos hh]; exact hx
  have hm2' : ∀ h x, h ∈ keys L2 → m h = some x → m2 h = some x := fun h x hh hx => by simp only [m2, if_pos hh]; exact hx
  let fo1 : FO := fun b => fo b ∨ own m2 b
  have hown : ∀ b, own m b ↔ own m1 b ∨ own m2 b := by
    intro b
    constructor
    · rintro ⟨h, x, hx, hb⟩
      rcases (hkeys h).1 (hi.dom h x hx) with hh | hh
      · exact .inl ⟨h, x, hm1' h x hh hx, hb⟩
      · exact .inr ⟨h, x, hm2' h x hh hx, hb⟩
    · rintro (⟨h, x, hx, hb⟩ | ⟨h, x, hx, hb⟩)
      · exact ⟨h, x, (hm1 h x hx).1, hb⟩
      · exact ⟨h, x, (hm2 h x hx).1, hb⟩
  have hOO : ∀ b, OO fo1 m1 b ↔ OO fo m b := by
    intro b
    unfold OO
    rw [hown b]
    constructor
    · rintro (h | h | h)
      · exact .inl (.inl h)
      · exact .inr h
      · exact .inl (.inr h)
    · rintro ((h | h) | h)
      · exact .inl h
      · exact .inr (.inr h)
      · exact .inr (.inl h)
  have hi1 : Inv fo1 m1 L1 w := by
    refine ⟨hnd.1, fun h x hx => (hm1 h x hx).2, ?_, ?_, ?_, ?_, hi.glob.mono (Keep.refl w _) (fun b _ hb => (hOO b).1 hb)⟩
    · intro h h' x x' b hx hx' hb hb'
      exact hi.apart h h' x x' b (hm1 h x hx).1 (hm1 h' x' hx').1 hb hb'
    · rintro h x b hx hb (hf | ⟨h', x', hx', hb'⟩)
      · exact hi.others h x b (hm1 h x hx).1 hb hf
      · have := hi.apart h h' x x' b (hm1 h x hx).1 (hm2 h' x' hx').1 hb hb'
        subst this
        exact hnd.2.2 h (hm1 h x hx).2 (hm2 h x' hx').2
    · rintro b (hf | ⟨h', x', hx', hb'⟩)
      · exact hi.folt b hf
      · exact hi.lt (hm2 h' x' hx').1 hb'
    · intro h r hr
      obtain ⟨x, hx, hh⟩ := hi.holds h r (hL.mem_iff.2 (List.mem_append_left _ hr))
      have hk : h ∈ keys L1 := List.mem_map.2 ⟨_, hr, rfl⟩
      rw [List.all_eq_true] at hon
      exact ⟨x, hm1' h x hk hx, (hh.on hm1' (hon _ hr)).mono (fun _ _ => rfl) (Keep.refl w _) (fun b _ hb => (hOO b).1 hb) (fun _ _ e => e)⟩
  obtain ⟨nx, h1, hlead⟩ := h fo1 m1 hOO hm1' hi1
  refine owp_leads h1 ?_
  refine hlead.mono ?_
  rintro e w' ⟨m1', r, L1', hR, he', hi', st'⟩
  obtain ⟨hdis, hbox⟩ := hstay r L1' hR
  let mm : Nat → Option Value := fun h => if h ∈ keys L1' then m1' h else m2 h
  have hmm1 : ∀ h y, m1' h = some y → mm h = some y := fun h y hy => by simp only [mm, if_pos (hi'.dom h y hy)]; exact hy
  have hmm2 : ∀ h y, m2 h = some y → mm h = some y := by
    intro h y hy
    have : h ∉ keys L1' := fun hh => hdis h hh (hm2 h y hy).2
    simp only [mm, if_neg this]; exact hy
  have hmmi : ∀ h y, mm h = some y → (m1' h = some y ∧ h ∈ keys L1') ∨ (m2 h = some y ∧ h ∉ keys L1') := by
    intro h y hy
    by_cases hh : h ∈ keys L1'
    · simp only [mm, if_pos hh] at hy; exact .inl ⟨hy, hh⟩
    · simp only [mm, if_neg hh] at hy; exact .inr ⟨hy, hh⟩
  have hownm : ∀ b, own mm b ↔ own m1' b ∨ own m2 b := by
    intro b
    constructor
    · rintro ⟨h, y, hy, hb⟩
      rcases hmmi h y hy with ⟨hy, _⟩ | ⟨hy, _⟩
      · exact .inl ⟨h, y, hy, hb⟩
      · exact .inr ⟨h, y, hy, hb⟩
    · rintro (⟨h, y, hy, hb⟩ | ⟨h, y, hy, hb⟩)
      · exact ⟨h, y, hmm1 h y hy, hb⟩
      · exact ⟨h, y, hmm2 h y hy, hb⟩
  have hOOm : ∀ b, OO fo mm b ↔ OO fo1 m1' b := by
    intro b
    unfold OO
    rw [hownm b]
    constructor
    · rintro ((h | h) | h)
      · exact .inl h
      · exact .inr (.inr h)
      · exact .inr (.inl h)
    · rintro (h | h | h)
      · exact .inl (.inl h)
      · exact .inr h
      · exact .inl (.inr h)
  have hO' : ∀ b, b < w.heap.size → OO fo mm b → OO fo m b := by
    intro b hb ho'
    rcases (hOOm b).1 ho' with h | h | h
    · exact .inl ((hown b).2 (.inl (st'.owned b hb h)))
    · exact .inr h
    · exact .inl ((hown b).2 (.inr h))
  have hkeep : Keep w (OO fo m) w' := ⟨st'.size, fun b hb hno => st'.block b hb (fun h => hno (.inl ((hown b).2 (.inl h))))⟩
  have hboxm : ∀ h y, h ∈ keys L2 ++ (L1.filterMap fun p => match p.2 with | .box (_ + 1) _ _ => some p.1 | _ => none) → m h = some y → mm h = some y := by
    intro h y hh hy
    rcases List.mem_append.1 hh with hh | hh
    · exact hmm2 h y (hm2' h y hh hy)
    · obtain ⟨p, hp, hpe⟩ := List.mem_filterMap.1 hh
      obtain ⟨q, r⟩ := p
      cases r with
      | row ty k xs => simp at hpe
      | env A => simp at hpe
      | mp es => simp at hpe
      | box b0 ty cs =>
        cases b0 with
        | zero => simp at hpe
        | succ b =>
        simp only [Option.some.injEq] at hpe
        subst hpe
        obtain ⟨ty', cs', hb'⟩ := hbox q b ty cs hp
        obtain ⟨z, hz, hzh⟩ := hi'.holds q _ hb'
        obtain ⟨bb1, hb1, cur', e1, _⟩ := hzh
        obtain ⟨u, hu, huh⟩ := hi1.holds q _ hp
        obtain ⟨bb2, hb2, cur, e2, _⟩ := huh
        obtain rfl : bb1 = b := by omega
        obtain rfl : bb2 = bb1 := by omega
        have := (hm1 q u hu).1
        rw [hy] at this
        obtain rfl := Option.some.inj this
        rw [e2, ← e1]
        exact hmm1 q z hz
  have hinv : Inv fo mm (L1' ++ L2) w' := by
    refine ⟨?_, ?_, ?_, ?_, fun b hf => Nat.lt_of_lt_of_le (hi.folt b hf) st'.size, ?_, hi.glob.mono hkeep hO'⟩
    · show (keys (L1' ++ L2)).Nodup
      rw [show keys (L1' ++ L2) = keys L1' ++ keys L2 by simp [keys], List.nodup_append]
      exact ⟨hi'.nodup, hnd.2.1, fun x h1 y h2 e => hdis x h1 (by rw [e]; exact h2)⟩
    · intro h y hy
      show h ∈ keys (L1' ++ L2)
      rw [show keys (L1' ++ L2) = keys L1' ++ keys L2 by simp [keys]]
      rcases hmmi h y hy with ⟨_, hh⟩ | ⟨hy, _⟩
      · exact List.mem_append_left _ hh
      · exact List.mem_append_right _ (hm2 h y hy).2
    · intro h h' y y' b hy hy' hb hb'
      rcases hmmi h y hy with ⟨hy, _⟩ | ⟨hy, _⟩ <;> rcases hmmi h' y' hy' with ⟨hy', _⟩ | ⟨hy', _⟩
      · exact hi'.apart h h' y y' b hy hy' hb hb'
      · exact (hi'.others h y b hy hb (.inr ⟨h', y', hy', hb'⟩)).elim
      · exact (hi'.others h' y' b hy' hb' (.inr ⟨h, y, hy, hb⟩)).elim
      · exact hi.apart h h' y y' b (hm2 h y hy).1 (hm2 h' y' hy').1 hb hb'
    · intro h y b hy hb hf
      rcases hmmi h y hy with ⟨hy, _⟩ | ⟨hy, _⟩
      · exact hi'.others h y b hy hb (.inl hf)
      · exact hi.others h y b (hm2 h y hy).1 hb hf
    · intro h r hr
      rcases List.mem_append.1 hr with hr | hr
      · obtain ⟨z, hz, hzh⟩ := hi'.holds h r hr
        exact ⟨z, hmm1 h z hz, hzh.mono (fun _ _ => rfl) (Keep.refl w' _) (fun b _ hb => (hOOm b).1 hb) hmm1⟩
      · obtain ⟨z, hz, hzh⟩ := hi.holds h r (hL.mem_iff.2 (List.mem_append_right _ hr))
        have hk : h ∈ keys L2 := List.mem_map.2 ⟨_, hr, rfl⟩
        refine ⟨z, hmm2 h z (hm2' h z hk hz), (hzh.on hboxm (hL2 _ hr)).mono (fun b hb => ?_) hkeep hO' (fun _ _ e => e)⟩
        exact st'.block b (hi.lt hz hb) (fun ho1 => by
          obtain ⟨h', y', hy', hb'⟩ := ho1
          have := hi.apart h h' z y' b hz (hm1 h' y' hy').1 hb hb'
          subst this
          exact hnd.2.2 h (hm1 h y' hy').2 hk)
  have stt : Step w (own m) w' (own mm) := by
    refine ⟨st'.os, st'.tape, st'.output, st'.size, fun b hb hno => st'.block b hb (fun h => hno ((hown b).2 (.inl h))), fun b hb ho' => ?_⟩
    rcases (hownm b).1 ho' with h | h
    · exact (hown b).2 (.inl (st'.owned b hb h))
    · exact (hown b).2 (.inr h)
  cases e with
  | panicked ch =>
    cases r with
    | ret x => simp only [Ends] at he'
    | pan x =>
      simp only [Ends] at he'
      obtain ⟨v, older, rfl, hold, hv⟩ := he'
      have hrx : RelV w' (OO fo mm) mm v x := hv.mono (Keep.refl w' _) (fun b _ hb => (hOOm b).1 hb) hmm1
      exact kp x L1' mm _ w' hR ⟨v, older, rfl, hold, hrx⟩ hinv stt hboxm hkeep hO'
  | outgrown => cases r <;> simp only [Ends] at he'
  | returned v =>
    cases r with
    | pan x => simp only [Ends] at he'
    | ret x =>
      simp only [Ends] at he'
      have hrx : RelV w' (OO fo mm) mm v x := he'.mono (Keep.refl w' _) (fun b _ hb => (hOOm b).1 hb) hmm1
      exact k x L1' mm v w' hR hrx hinv stt hboxm hkeep hO'
theorem call_coreP {o : Oper} {c : Call} {f : FuncId} {args : List V} {L1 L2 : Heap} {R : AE → Heap → Prop}
    (hop : o.op = .call c) (hc : callee s.ev c = some (f, args)) (he : enters P f = true) (ho : V.ons (keys L1) args = true) (hL : s.L.Perm (L1 ++ L2)) (hon : L1.all (fun p => Res.on (keys L1) p.2) = true)
    (hL2 : ∀ p ∈ L2, Res.on (keys L2 ++ (L1.filterMap fun p => match p.2 with | .box (_ + 1) _ _ => some p.1 | _ => none)) p.2 = true)
    (h : ACalls P f args L1 R)
    (hstay : ∀ r L1', R r L1' → (∀ k ∈ keys L1', k ∉ keys L2) ∧ ∀ k b ty cs, (k, Res.box (b + 1) ty cs) ∈ L1 → ∃ ty' cs', (k, Res.box (b + 1) ty' cs') ∈ L1')
    {fo : FO} {m : Nat → Option Value} {a : Act} {w : World} (g : G fo n m s a w) {next : Act → World → Prop} {Q' : Exit → Act → World → Prop}
    (k : ∀ x L1' mm v w', R (.ret x) L1' → RelV w' (OO fo mm) mm v x → Inv fo mm (L1' ++ L2) w' → Step w (own m) w' (own mm) →
      (∀ h y, h ∈ keys L2 ++ (L1.filterMap fun p => match p.2 with | .box (_ + 1) _ _ => some p.1 | _ => none) → m h = some y → mm h = some y) →
      Keep w (OO fo m) w' → (∀ b, b < w.heap.size → OO fo mm b → OO fo m b) → next (a.put o.dst v) w')
    (kp : ∀ x L1' mm ch w', R (.pan x) L1' → Chain w' (OO fo mm) mm ch x → Inv fo mm (L1' ++ L2) w' → Step w (own m) w' (own mm) →
      (∀ h y, h ∈ keys L2 ++ (L1.filterMap fun p => match p.2 with | .box (_ + 1) _ _ => some p.1 | _ => none) → m h = some y → mm h = some y) →
      Keep w (OO fo m) w' → (∀ b, b < w.heap.size → OO fo mm b → OO fo m b) → Q' (.panic ch) a w') : o.wpIn (wr fo.r) 0 P a w next Q' := by
  obtain ⟨xs, h1, h2⟩ := call_enters (P := P) (w := w) (m := m) (O := OO fo m) hop hc he (fun z _ => eval_rel g z)
  refine core hL hon hL2 hstay (fun fo1 m1 hOO hm1' hi1 => ⟨_, h1, ?_⟩) g k kp
  refine h fo1 m1 w xs hi1 ⟨h2.1, fun j v y hv hy => ?_⟩
  exact ((h2.2 j v y hv hy).on hm1' (ons_mem ho y (List.mem_of_getElem? hy))).mono (Keep.refl w _) (fun b _ hb => (hOO b).1 hb) (fun _ _ e => e)
end
end Go.Ab

namespace Go.Ab
section
variable {P : Program} {n : Nat} {s : St} {Q : AX → St → Prop} {ops : Array Oper}
def yv (l : Nat) : V := .d (.v (.func (.yield l) #[] #[]))
structure Bun (w : World) (O : Nat → Prop) (l : Nat) (L : Heap) (m : Nat → Option Value) : Prop where
  nodup : (keys L).Nodup
  dom : ∀ h x, m h = some x → h ∈ keys L
  apart : ∀ h h' x x' b, m h = some x → m h' = some x' → blk x b → blk x' b → h = h'
  self : ¬ own m l
  holds : ∀ h r, (h, r) ∈ L → ∃ x, m h = some x ∧ r.Holds w O m x
def one (x : Value) : Nat → Option Value := fun h => if h = 5003 then some x else none
end
end Go.Ab

namespace Go.Ab
section
variable {P : Program} {n : Nat} {s : St} {Q : AX → St → Prop}
def putPs : List (Nat × V) → List (Nat × V) → List (Nat × V)
  | [], fr => fr
  | (t, x) :: l, fr => putPs l ((t, x) :: delF t fr)
def labs : Heap → List (Nat × Nat)
  | [] => []
  | (h, .box (b + 1) _ _) :: L => (h, b) :: labs L
  | _ :: L => labs L
theorem labs_mem {h b : Nat} : ∀ {L : Heap}, (h, b) ∈ labs L → ∃ ty cs, (h, Res.box (b + 1) ty cs) ∈ L
  | [], hm => by cases hm
  | (k, .box 0 ty cs) :: L, hm => by
    simp only [labs] at hm
    obtain ⟨ty', cs', h'⟩ := labs_mem hm
    exact ⟨ty', cs', List.mem_cons_of_mem _ h'⟩
  | (k, .box (c + 1) ty cs) :: L, hm => by
    simp only [labs, List.mem_cons, Prod.mk.injEq] at hm
    rcases hm with ⟨rfl, rfl⟩ | hm
    · exact ⟨ty, cs, List.mem_cons_self⟩
    · obtain ⟨ty', cs', h'⟩ := labs_mem hm
      exact ⟨ty', cs', List.mem_cons_of_mem _ h'⟩
  | (k, .row ty j xs) :: L, hm => by
    simp only [labs] at hm
    obtain ⟨ty', cs', h'⟩ := labs_mem hm
    exact ⟨ty', cs', List.mem_cons_of_mem _ h'⟩
  | (k, .env A) :: L, hm => by
    simp only [labs] at hm
    obtain ⟨ty', cs', h'⟩ := labs_mem hm
    exact ⟨ty', cs', List.mem_cons_of_mem _ h'⟩
  | (k, .mp es) :: L, hm => by
    simp only [labs] at hm
    obtain ⟨ty', cs', h'⟩ := labs_mem hm
    exact ⟨ty', cs', List.mem_cons_of_mem _ h'⟩
theorem labs_place {fo : FO} {m : Nat → Option Value} {L : Heap} {w : World} (hi : Inv fo m L w) {h : Nat} {x : Value} (hk : h ∈ (labs L).map (·.1)) (hx : m h = some x) : ∃ b, (h, b) ∈ labs L ∧ x = .pointer (some ⟨b, 0, none⟩) := by
  obtain ⟨⟨h', b⟩, hm, rfl⟩ := List.mem_map.1 hk
  obtain ⟨ty, cs, hm'⟩ := labs_mem hm
  obtain ⟨y, hy, bb, hbb, cur, rfl, _⟩ := hi.holds _ _ hm'
  simp only at hx
  rw [hx] at hy
  obtain rfl := Option.some.inj hy
  obtain rfl : bb = b := by omega
  exact ⟨bb, hm, rfl⟩
theorem labs_same {fo fo' : FO} {m m' : Nat → Option Value} {L L' : Heap} {w w' : World} (hi : Inv fo m L w) (hi' : Inv fo' m' L' w') (hl : labs L' = labs L) : ∀ h x, h ∈ (labs L).map (·.1) → m h = some x → m' h = some x := by
  intro h x hk hx
  obtain ⟨b, hb, rfl⟩ := labs_place hi hk hx
  rw [← hl] at hb
  obtain ⟨ty, cs, hm⟩ := labs_mem hb
  obtain ⟨y, hy, hyh⟩ := hi'.holds _ _ hm
  obtain ⟨b', h1, e⟩ := labs_place hi' (List.mem_map.2 ⟨_, hb, rfl⟩) hy
  obtain ⟨bb, hbb, cur, rfl, _⟩ := hyh
  obtain rfl : bb = b := by omega
  exact hy
def RoundQ (hs : List Nat) (L0 L' : Heap) (Hn : Prop) (fr : List (Nat × V)) (K : AX → St → Prop) (x : AX) (s : St) : Prop :=
  match x with
  | .normal => (s.pick [] hs).on (keys (s.pick [] hs).L) = true ∧ (s.pick [] hs).L = L' ∧ Hn
  | .pan _ => False
  | x => (s.pick [] hs).on (keys (s.pick [] hs).L) = true ∧ labs (s.pick [] hs).L = labs L0 ∧ K x ⟨fr, (s.pick [] hs).L⟩
end
end Go.Ab

namespace Go.Ab
section
variable {P : Program} {n : Nat} {s : St} {Q : AX → St → Prop}
theorem perm_keys {L L' : Heap} (h : L.Perm L') : (keys L).Perm (keys L') := h.map _
end
end Go.Ab

namespace Go.Ab
section
variable {P : Program} {n : Nat} {s : St} {Q : AX → St → Prop}
theorem codeK_rangeF {g : Operand} {ps : List Tmp} {assign body : Code} : codeK P n (.rangeFunc g ps.toArray assign body) s Q = AWP P n (.rangeFunc g ps.toArray assign body) s Q := by simp [codeK]
attribute [simp] yv codeK_rangeF RoundQ putPs labs
end
end Go.Ab

namespace Go.Ab
section
variable {P : Program} {n : Nat} {s : St} {Q : AX → St → Prop} {L : Heap}
mutual
theorem kill_kill (h : Nat) : ∀ x : V, V.kill h (V.kill h x) = V.kill h x
  | .bp i o => by simp only [V.kill]; split <;> simp [V.kill, *]
  | .rv i => by simp only [V.kill]; split <;> simp [V.kill, *]
  | .ep i k x y => by simp only [V.kill]; split <;> simp [V.kill, *]
  | .clo fn f c => by simp only [V.kill, kills_kills h f, kills_kills h c]
  | .agg cs => by simp only [V.kill, kills_kills h cs]
  | .tup cs => by simp only [V.kill, kills_kills h cs]
  | .gd b x => by simp only [V.kill, kill_kill h x]
  | .d x => rfl
  | .rp cs => rfl
  | .sv i n => by simp only [V.kill]; split <;> simp [V.kill, *]
  | .kn Q => rfl
  | .any => rfl
theorem kills_kills (h : Nat) : ∀ l : List V, V.kills h (V.kills h l) = V.kills h l
  | [] => rfl
  | x :: l => by simp only [V.kills, kill_kill h x, kills_kills h l]
end
theorem Inv.perm {fo : FO} {m : Nat → Option Value} {L L' : Heap} {w : World} (hp : L.Perm L') (h : Inv fo m L w) : Inv fo m L' w :=
  ⟨(perm_keys hp).nodup_iff.1 h.nodup, fun i x hx => (perm_keys hp).mem_iff.1 (h.dom i x hx), h.apart, h.others, h.folt, fun i r hr => h.holds i r (hp.mem_iff.2 hr), h.glob⟩
end
end Go.Ab

namespace Go.Ab
open Go.Proofs
theorem Tryz.mixed : Tryz.prog.follows .mixedOrders = true := by kernel_rfl
def fromB (n lo hi : Int) : Bool := decide (lo ≤ n) && decide (n ≤ hi)
theorem fromB_iff {n lo hi : Int} : fromB n lo hi = true ↔ lo ≤ n ∧ n ≤ hi := by simp [fromB]
def int16 (n : Int) : Bool := fromB n (-32768) 32767
theorem refFrom_ok (n lo hi : Int) : Pure Tryz.prog 32 [.d (.v (.int .i64 n)), .d (.v (.int .i64 lo)), .d (.v (.int .i64 hi))] (.d (.v (.bool (fromB n lo hi)))) := by
  unfold fromB
  refine Pure.run Tryz.func32 rfl (by simp [Tryz.f32]) ?_; simp [Tryz.f32]
theorem refIs_ok (n : Int) : Pure Tryz.prog 31 [.d (.v (.int .i64 n))] (.d (.v (.bool (int16 n)))) := by
  unfold int16 fromB
  refine Pure.run Tryz.func31 rfl (by simp [Tryz.f31]) ?_; simp [Tryz.f31]
def allB {α : Type} (p : α → Bool) (l : List α) : Bool := l.all p
theorem allB_nil {α : Type} (p : α → Bool) : allB p [] = true := rfl
theorem allB_snoc {α : Type} (p : α → Bool) (pre : List α) (x : α) : allB p (pre ++ [x]) = (allB p pre && p x) := by simp [allB]
theorem allB_split {α : Type} {p : α → Bool} {l pre post : List α} {x : α} (h : l = pre ++ x :: post) (hH : allB p pre = true) : allB p l = (p x && allB p post) := by
  unfold allB at *
  rw [h, List.all_append, hH]; simp
theorem allB_iff {α : Type} {p : α → Bool} {l : List α} : allB p l = true ↔ ∀ x ∈ l, p x = true := by simp [allB]
theorem refValues_ok (l : List Int) (hl : l.length ≤ 1000000000000000) : Pure Tryz.prog 28 [.d (.sl (encI l))] (.d (.v (.bool (allB int16 l)))) := by
  refine Pure.run Tryz.func28 rfl (by simp [Tryz.f28]) ?_; simp [Tryz.f28]
  refine AWP.loopL [0, 3] l (fun pre => [(3, .d (.v (.int .i64 pre.length)))]) (fun _ => []) (fun pre => allB int16 pre = true) (by rfl) (by omega) (by simp [allB_nil]) ?_ ?_
  · rintro pre x post hsp hH hlt hge a4
    have hall := allB_split hsp hH
    clear hsp
    simp [*]
    refine AOps.pureC rfl (refIs_ok x) (by simp) rfl (by simp) rfl ?_
    simp
    simp_all [allB_snoc]
  · intro hH
    simp [*]
def smallB (c : Int) : Bool := fromB c 97 122
def greatB (c : Int) : Bool := fromB c 65 90
def digitB (c : Int) : Bool := fromB c 48 57
def rowB (c : Int) : Bool := smallB c || greatB c || digitB c || c == 45 || c == 39
def txtB (c : UInt8) : Bool := !((decide ((c.toNat : Int) < 32) || decide ((c.toNat : Int) > 126)) && (c.toNat : Int) != 10)
def wrdB (c : UInt8) : Bool := rowB c.toNat && !greatB c.toNat
def isTextB (s : ByteArray) : Bool := allB txtB s.data.toList && decide (s.size ≤ 1024)
def isWordB (s : ByteArray) : Bool := decide (1 ≤ s.size) && decide (s.size ≤ 9) && (smallB (s.data.toList[0]?.getD 0).toNat || digitB (s.data.toList[0]?.getD 0).toNat) && allB wrdB s.data.toList
theorem refSmall_ok (c : Int) : Pure Tryz.prog 190 [.d (.v (.int .u8 c))] (.d (.v (.bool (smallB c)))) := by
  unfold smallB fromB
  refine Pure.run Tryz.func190 rfl (by simp [Tryz.f190]) ?_; simp [Tryz.f190]
theorem refGreat_ok (c : Int) : Pure Tryz.prog 193 [.d (.v (.int .u8 c))] (.d (.v (.bool (greatB c)))) := by
  unfold greatB fromB
  refine Pure.run Tryz.func193 rfl (by simp [Tryz.f193]) ?_; simp [Tryz.f193]
theorem refDigit_ok (c : Int) : Pure Tryz.prog 191 [.d (.v (.int .u8 c))] (.d (.v (.bool (digitB c)))) := by
  unfold digitB fromB
  refine Pure.run Tryz.func191 rfl (by simp [Tryz.f191]) ?_; simp [Tryz.f191]
theorem refRow_ok (c : Int) : Pure Tryz.prog 192 [.d (.v (.int .u8 c))] (.d (.v (.bool (rowB c)))) := by
  unfold rowB
  refine Pure.run Tryz.func192 rfl (by simp [Tryz.f192]) ?_; simp [-cB, Tryz.f192]
  repeat' (first
    | (with_reducible refine And.intro ?_ ?_)
    | (refine condC_split (fun h => ?_) (fun h => ?_) <;> (try simp at h) <;> (try simp [-cB, *]))
    | (refine AOps.pureC rfl (refSmall_ok _) rfl rfl (by simp) rfl ?_ <;> (try simp [-cB, *]))
    | (refine AOps.pureC rfl (refGreat_ok _) rfl rfl (by simp) rfl ?_ <;> (try simp [-cB, *]))
    | (refine AOps.pureC rfl (refDigit_ok _) rfl rfl (by simp) rfl ?_ <;> (try simp [-cB, *]))
    | (refine AOps.lendC rfl (refSmall_ok _) rfl (by simp) rfl rfl (by simp) rfl ?_ <;> (try simp [-cB, *]))
    | (refine AOps.lendC rfl (refGreat_ok _) rfl (by simp) rfl rfl (by simp) rfl ?_ <;> (try simp [-cB, *]))
    | (refine AOps.lendC rfl (refDigit_ok _) rfl (by simp) rfl rfl (by simp) rfl ?_ <;> (try simp [-cB, *]))
    | (refine AOps.pureG rfl (fun h => refSmall_ok _) rfl (by first | rfl | (simp; rfl)) (by simp) (by simp) rfl ?_ <;> (try simp [-cB, *]))
    | (refine AOps.pureG rfl (fun h => refGreat_ok _) rfl (by first | rfl | (simp; rfl)) (by simp) (by simp) rfl ?_ <;> (try simp [-cB, *]))
    | (refine AOps.pureG rfl (fun h => refDigit_ok _) rfl (by first | rfl | (simp; rfl)) (by simp) (by simp) rfl ?_ <;> (try simp [-cB, *]))
    | (with_reducible intro _))
theorem refIsText_ok (s : ByteArray) (hs : s.size ≤ 1000000000000000) : Pure Tryz.prog 67 [.d (.v (.string s))] (.d (.v (.bool (isTextB s)))) := by
  have hsz : s.data.toList.length = s.size := rfl
  unfold isTextB
  refine Pure.run Tryz.func67 rfl (by simp [Tryz.f67]) ?_; simp [Tryz.f67]
  refine AWP.loopL [0, 3] s.data.toList (fun pre => [(3, .d (.v (.int .i64 pre.length)))]) (fun _ => []) (fun pre => allB txtB pre = true) (by rfl) (by omega) (by simp [allB_nil]) ?_ ?_
  · rintro pre x post hsp hH hlt hge a4
    have hall := allB_split hsp hH
    have hge2 : s.data[pre.length]'hlt = x := by simpa using hge
    rw [hsz] at hlt
    clear hsp hge
    simp [*]
    have : txtB x = true ↔ ((x.toNat : Int) < 32 ∨ 126 < (x.toNat : Int) → (x.toNat : Int) = 10) := by simp [txtB]; omega
    refine ⟨fun h1 h2 h3 => (h2 ((this.1 h3) h1)).elim, fun h => ?_⟩
    simp [allB_snoc, hH, this.2 h]
  · intro hH
    simp [*]
    omega
theorem refIsWord_ok (s : ByteArray) (hs : s.size ≤ 1000000000000000) : Pure Tryz.prog 141 [.d (.v (.string s))] (.d (.v (.bool (isWordB s)))) := by
  have hsz : s.data.toList.length = s.size := rfl
  unfold isWordB
  refine Pure.run Tryz.func141 rfl (by simp [Tryz.f141]) ?_; simp [-cB, Tryz.f141]
  repeat' (first
    | (with_reducible refine And.intro ?_ ?_)
    | (refine condC_split (fun h => ?_) (fun h => ?_) <;> (try simp at h) <;> (try simp [-cB, *]))
    | (refine AOps.pureC rfl (refSmall_ok _) rfl rfl (by simp) rfl ?_ <;> (try simp [-cB, *]))
    | (refine AOps.pureC rfl (refDigit_ok _) rfl rfl (by simp) rfl ?_ <;> (try simp [-cB, *]))
    | (refine AOps.lendC rfl (refSmall_ok _) rfl (by simp) rfl rfl (by simp) rfl ?_ <;> (try simp [-cB, *]))
    | (refine AOps.lendC rfl (refDigit_ok _) rfl (by simp) rfl rfl (by simp) rfl ?_ <;> (try simp [-cB, *]))
    | (refine AOps.pureG rfl (fun h => refSmall_ok _) rfl (by first | rfl | (simp; rfl)) (by simp) (by simp) rfl ?_ <;> (try simp [-cB, *]))
    | (refine AOps.pureG rfl (fun h => refDigit_ok _) rfl (by first | rfl | (simp; rfl)) (by simp) (by simp) rfl ?_ <;> (try simp [-cB, *]))
    | (with_reducible intro _))
  all_goals first | omega | assumption | skip
  · generalize smallB ↑(s.data[0]?.getD 0).toNat = p at *
    generalize digitB ↑(s.data[0]?.getD 0).toNat = q at *
    rename_i h1 h2 h3
    rcases h with (h | h) | ⟨h, h'⟩
    · omega
    · omega
    · simp [h, h'] at h3
  · refine AWP.loopL [0, 3] s.data.toList (fun pre => [(3, .d (.v (.int .i64 pre.length)))]) (fun _ => []) (fun pre => allB wrdB pre = true) (by rfl) (by omega) (by simp [allB_nil]) ?_ ?_
    · rintro pre x post hsp hH hlt hge a4
      have hall := allB_split hsp hH
      have hge2 : s.data[pre.length]'hlt = x := by simpa using hge
      rw [hsz] at hlt
      clear hsp hge
      have hsn : allB wrdB (pre ++ [x]) = wrdB x := by simp [allB_snoc, hH]
      have hx : wrdB x = (rowB x.toNat && !greatB x.toNat) := rfl
      simp [-cB, *]
      repeat' (first
        | (with_reducible refine And.intro ?_ ?_)
        | (refine condC_split (fun h => ?_) (fun h => ?_) <;> (try simp at h) <;> (try simp [-cB, *]))
        | (refine AOps.pureC rfl (refRow_ok _) rfl rfl (by simp) rfl ?_ <;> (try simp [-cB, *]))
        | (refine AOps.pureC rfl (refGreat_ok _) rfl rfl (by simp) rfl ?_ <;> (try simp [-cB, *]))
        | (refine AOps.lendC rfl (refRow_ok _) rfl (by simp) rfl rfl (by simp) rfl ?_ <;> (try simp [-cB, *]))
        | (refine AOps.lendC rfl (refGreat_ok _) rfl (by simp) rfl rfl (by simp) rfl ?_ <;> (try simp [-cB, *]))
        | (refine AOps.pureG rfl (fun h => refRow_ok _) rfl (by first | rfl | (simp; rfl)) (by simp) (by simp) rfl ?_ <;> (try simp [-cB, *]))
        | (refine AOps.pureG rfl (fun h => refGreat_ok _) rfl (by first | rfl | (simp; rfl)) (by simp) (by simp) rfl ?_ <;> (try simp [-cB, *]))
        | (with_reducible intro _))
      all_goals (first | assumption | omega | (rw [inR_i64]; omega) | (simp_all; done) | grind | skip)
    · intro hH
      simp [*]
      all_goals (first | assumption | omega | (rw [inR_i64]; omega) | (simp_all; done) | grind | skip)
def textB (t : GTables) (n : Int) (none : Bool) : Bool := fromB n 0 (t.Texts.length - 1) || (none && decide (n = -1))
def routB (t : GTables) (n : Int) (none : Bool) : Bool := (none && decide (n = -1)) || (fromB n 0 (t.Params.length - 1) && decide (t.Params[n.toNat]?.getD 0 = 0))
def thingB (t : GTables) (n : Int) : Bool := fromB n 1 (t.Things.length - 1)
theorem refText_ok (t : GTables) (ht : t.wf) (n : Int) (none : Bool) : Pure Tryz.prog 66 [.agg (t.enc.map .d), .d (.v (.int .i64 n)), .d (.v (.bool none))] (.d (.v (.bool (textB t n none)))) := by
  have hlen : t.Texts.length ≤ 1000000000000000 := by have := ht; simp [GTables.wf] at this; omega
  unfold textB
  refine Pure.run Tryz.func66 rfl (by simp [Tryz.f66]) ?_; simp [-cB, Tryz.f66]
  repeat' (first
    | (with_reducible refine And.intro ?_ ?_)
    | (refine condC_split (fun h => ?_) (fun h => ?_) <;> (try simp at h) <;> (try simp [-cB, *]))
    | (refine AOps.pureC rfl (refFrom_ok _ _ _) rfl rfl (by simp) rfl ?_ <;> (try simp [-cB, *]))
    | (refine AOps.lendC rfl (refFrom_ok _ _ _) rfl (by simp) rfl rfl (by simp) rfl ?_ <;> (try simp [-cB, *]))
    | (refine AOps.pureG rfl (fun h => refFrom_ok _ _ _) rfl (by first | rfl | (simp; rfl)) (by simp) (by simp) rfl ?_ <;> (try simp [-cB, *]))
    | (with_reducible intro _))
  all_goals (first | assumption | omega | (rw [inR_i64]; omega) | (simp_all [fromB]; done) | grind [fromB] | skip)
theorem refThing_ok (t : GTables) (ht : t.wf) (n : Int) : Pure Tryz.prog 70 [.agg (t.enc.map .d), .d (.v (.int .i64 n))] (.d (.v (.bool (thingB t n)))) := by
  have hlen : t.Things.length ≤ 1000000000000000 := by have := ht; simp [GTables.wf] at this; omega
  unfold thingB
  refine Pure.run Tryz.func70 rfl (by simp [Tryz.f70]) ?_; simp [-cB, Tryz.f70]
  repeat' (first
    | (with_reducible refine And.intro ?_ ?_)
    | (refine condC_split (fun h => ?_) (fun h => ?_) <;> (try simp at h) <;> (try simp [-cB, *]))
    | (refine AOps.pureC rfl (refFrom_ok _ _ _) rfl rfl (by simp) rfl ?_ <;> (try simp [-cB, *]))
    | (refine AOps.lendC rfl (refFrom_ok _ _ _) rfl (by simp) rfl rfl (by simp) rfl ?_ <;> (try simp [-cB, *]))
    | (refine AOps.pureG rfl (fun h => refFrom_ok _ _ _) rfl (by first | rfl | (simp; rfl)) (by simp) (by simp) rfl ?_ <;> (try simp [-cB, *]))
    | (with_reducible intro _))
  all_goals (first | assumption | omega | (rw [inR_i64]; omega) | (simp_all [fromB]; done) | grind [fromB] | skip)
theorem refRoutine_ok (t : GTables) (ht : t.wf) (n : Int) (none : Bool) : Pure Tryz.prog 75 [.agg (t.enc.map .d), .d (.v (.int .i64 n)), .d (.v (.bool none))] (.d (.v (.bool (routB t n none)))) := by
  have hlen : t.Params.length ≤ 1000000000000000 := by have := ht; simp [GTables.wf] at this; omega
  unfold routB
  refine Pure.run Tryz.func75 rfl (by simp [Tryz.f75]) ?_; simp [-cB, Tryz.f75]
  repeat' (first
    | (with_reducible refine And.intro ?_ ?_)
    | (refine condC_split (fun h => ?_) (fun h => ?_) <;> (try simp at h) <;> (try simp [-cB, *]))
    | (refine AOps.pureC rfl (refFrom_ok _ _ _) rfl rfl (by simp) rfl ?_ <;> (try simp [-cB, *]))
    | (refine AOps.lendC rfl (refFrom_ok _ _ _) rfl (by simp) rfl rfl (by simp) rfl ?_ <;> (try simp [-cB, *]))
    | (refine AOps.pureG rfl (fun h => refFrom_ok _ _ _) rfl (by first | rfl | (simp; rfl)) (by simp) (by simp) rfl ?_ <;> (try simp [-cB, *]))
    | (with_reducible intro _))
  all_goals (first | assumption | omega | (rw [inR_i64]; omega) | (simp_all [fromB]; done) | grind [fromB] | skip)
def wordsB (l : List ByteArray) (most : Int) : Bool := allB isWordB l && decide ((l.length : Int) ≤ most)
theorem refWords_ok (l : List ByteArray) (hl : l.length ≤ 1000000000000000) (hs : ∀ x ∈ l, x.size ≤ 1000000000000000) (most : Int) : Pure Tryz.prog 69 [.d (.sl (encS l)), .d (.v (.int .i64 most))] (.d (.v (.bool (wordsB l most)))) := by
  unfold wordsB
  refine Pure.run Tryz.func69 rfl (by simp [Tryz.f69]) ?_; simp [Tryz.f69]
  refine AWP.loopL [0, 1, 5] l (fun pre => [(5, .d (.v (.int .i64 pre.length)))]) (fun _ => []) (fun pre => allB isWordB pre = true) (by rfl) (by omega) (by simp [allB_nil]) ?_ ?_
  · rintro pre x post hsp hH hlt hge a4
    have hall := allB_split hsp hH
    have hx := refIsWord_ok x (hs x (by rw [hsp]; simp))
    have hsn : allB isWordB (pre ++ [x]) = isWordB x := by simp [allB_snoc, hH]
    clear hsp
    simp [-cB, *]
    repeat' (first
      | (with_reducible refine And.intro ?_ ?_)
      | (refine condC_split (fun h => ?_) (fun h => ?_) <;> (try simp at h) <;> (try simp [-cB, *]))
      | (refine AOps.pureC rfl (hx) rfl rfl (by simp) rfl ?_ <;> (try simp [-cB, *]))
      | (refine AOps.lendC rfl (hx) rfl (by simp) rfl rfl (by simp) rfl ?_ <;> (try simp [-cB, *]))
      | (refine AOps.pureG rfl (fun h => hx) rfl (by first | rfl | (simp; rfl)) (by simp) (by simp) rfl ?_ <;> (try simp [-cB, *]))
      | (with_reducible intro _))
    all_goals (first | assumption | omega | (rw [inR_i64]; omega) | (simp_all; done) | grind | skip)
  · intro hH
    simp [*]
def nothingB (t : GTables) (x : GThing) : Bool :=
  decide (x.Title = 0) && decide (x.Text = -1) && decide (x.Parent = 0) && decide (x.Flags = 0) && !x.Room && decide (x.Props.length = t.Props.length) && decide (x.Words.length + x.Adjs.length + x.Ways.length = 0) && allB (fun n => decide (n = 0)) x.Props
set_option maxRecDepth 20000 in
theorem refNothing_ok (t : GTables) (ht : t.wf) (x : GThing) (hx : x.wf) : Pure Tryz.prog 68 [.agg (t.enc.map .d), .agg (x.enc.map .d)] (.d (.v (.bool (nothingB t x)))) := by
  have hx' := hx
  simp [GThing.wf] at hx'
  unfold nothingB
  refine Pure.run Tryz.func68 rfl (by simp [Tryz.f68]) ?_; simp [-cB, Tryz.f68]
  repeat' (first
    | (with_reducible refine And.intro ?_ ?_)
    | (refine condC_split (fun h => ?_) (fun h => ?_) <;> (try simp at h) <;> (try simp [-cB, *]))
    | (refine AOps.pureC rfl (refFrom_ok _ _ _) rfl rfl (by simp) rfl ?_ <;> (try simp [-cB, *]))
    | (refine AOps.lendC rfl (refFrom_ok _ _ _) rfl (by simp) rfl rfl (by simp) rfl ?_ <;> (try simp [-cB, *]))
    | (refine AOps.pureG rfl (fun h => refFrom_ok _ _ _) rfl (by first | rfl | (simp; rfl)) (by simp) (by simp) rfl ?_ <;> (try simp [-cB, *]))
    | (with_reducible intro _))
  obtain ⟨-, -, -, -, hq1, -, hq2, -, hq3, -, hq4, -⟩ := hx'
  all_goals (first | assumption | omega | (rw [inR_i64]; omega) | (simp_all; done) | grind | skip)
  have hz : decide (x.Words = []) = true ∧ decide (x.Adjs = []) = true ∧ decide (x.Ways = []) = true := by
    have h1 : x.Words.length = 0 := by omega
    have h2 : x.Adjs.length = 0 := by omega
    have h3 : x.Ways.length = 0 := by omega
    simp [List.length_eq_zero_iff] at h1 h2 h3
    simp [h1, h2, h3]
  have hp : decide (x.Props.length = t.Props.length) = true := by simp; omega
  refine AWP.loopL [3, 5] x.Props (fun pre => [(5, .d (.v (.int .i64 pre.length)))]) (fun _ => []) (fun pre => allB (fun n => decide (n = 0)) pre = true) (by rfl) (by omega) (by simp [allB_nil]) ?_ ?_
  · rintro pre x1 post hsp hH hlt hge a4
    have hall := allB_split hsp hH
    have hsn : allB (fun n => decide (n = 0)) (pre ++ [x1]) = decide (x1 = 0) := by simp [allB_snoc, hH]
    clear hsp h
    simp [-cB, *]
    repeat' (first
      | (with_reducible refine And.intro ?_ ?_)
      | (refine condC_split (fun h => ?_) (fun h => ?_) <;> (try simp at h) <;> (try simp [-cB, *]))
      | (refine AOps.pureC rfl (refRow_ok _) rfl rfl (by simp) rfl ?_ <;> (try simp [-cB, *]))
      | (refine AOps.lendC rfl (refRow_ok _) rfl (by simp) rfl rfl (by simp) rfl ?_ <;> (try simp [-cB, *]))
      | (refine AOps.pureG rfl (fun h => refRow_ok _) rfl (by first | rfl | (simp; rfl)) (by simp) (by simp) rfl ?_ <;> (try simp [-cB, *]))
      | (with_reducible intro _))
    all_goals (first | assumption | omega | (rw [inR_i64]; omega) | (simp_all; done) | grind | skip)
  · intro hH
    clear h
    simp [*]
def bitsM (n : Int) : Int := 2 ^ (min n.toNat 16)
theorem refBits_ok (n : Int) : Pure Tryz.prog 30 [.d (.v (.int .i64 n))] (.d (.v (.int .i64 (bitsM n)))) := by
  refine Pure.run Tryz.func30 rfl (by simp [Tryz.f30]) ?_; simp [Tryz.f30]
  refine AWP.loopS [0, 3, 4] (min n.toNat 16) (fun i => [(3, .d (.v (.int .i64 (2 ^ i)))), (4, .d (.v (.int .i64 i)))]) (fun _ => []) (fun _ => True) (by rfl) (by simp) ?_
  intro i hi _
  have h16 : i ≤ 16 := by omega
  have hp : (2 : Int) ^ i ≤ 65536 ∧ (0 : Int) < 2 ^ i := by
    have e : (2 : Int) ^ i = ((2 ^ i : Nat) : Int) := by simp
    have := Nat.pow_le_pow_right (n := 2) (by decide) h16
    have := Nat.pow_pos (a := 2) (n := i) (by decide)
    rw [e]; omega
  have hs : (2 : Int) ^ (i + 1) = 2 * 2 ^ i := by rw [Int.pow_succ]; omega
  simp
  refine ⟨fun h1 h2 => ⟨by rw [inR_i64]; omega, by rw [inR_i64]; omega, by omega, by omega⟩, fun h => ?_⟩
  unfold bitsM
  rw [show min n.toNat 16 = i by omega]
end Go.Ab

namespace Go.Ab
open Go.Proofs
def wrapM (n : Int) : Int := IntKind.wrap .i16 n
theorem wrapM_eq (n : Int) : wrapM n = (n + 32768) % 65536 - 32768 := by
  unfold wrapM IntKind.wrap
  simp [IntKind.signed, IntKind.bits]
  try omega
theorem Pure.none {f : FuncId} {args : List V} {x : V} (h : False) : Pure Tryz.prog f args x := h.elim
theorem wrapM_bd (n : Int) : -32768 ≤ wrapM n ∧ wrapM n ≤ 32767 := by rw [wrapM_eq]; omega
theorem wrapM_id {n : Int} (h : -32768 ≤ n ∧ n ≤ 32767) : wrapM n = n := by rw [wrapM_eq]; omega
theorem wrap64 {n : Int} (h : inR .i64 n) : IntKind.wrap .i64 n = n := by
  rw [inR_i64] at h
  unfold IntKind.wrap
  simp [IntKind.signed, IntKind.bits]
  try omega
theorem refWrap_ok (n : Int) : Pure Tryz.prog 98 [.d (.v (.int .i64 n))] (.d (.v (.int .i64 (wrapM n)))) := by
  have h0 := wrapM_eq n
  have h1 : n.tmod 65536 = if 0 ≤ n then n % 65536 else -((-n) % 65536) := by
    split
    · rename_i h; exact Int.tmod_eq_emod_of_nonneg h
    · rename_i h
      have := Int.neg_tmod (a := -n) (b := 65536)
      rw [Int.neg_neg] at this
      rw [this, Int.tmod_eq_emod_of_nonneg (by omega)]
  refine Pure.run Tryz.func98 rfl (by simp [Tryz.f98]) ?_; simp [-cB, Tryz.f98]
  generalize n.tmod 65536 = m at *
  generalize hr : wrapM n = r at *
  repeat' (first
    | (with_reducible refine And.intro ?_ ?_)
    | (refine condC_split (fun h => ?_) (fun h => ?_) <;> (try simp at h) <;> (try simp [-cB, *]))
    | (refine AOps.pureC rfl (Pure.none) rfl rfl (by simp) rfl ?_ <;> (try simp [-cB, *]))
    | (refine AOps.lendC rfl (Pure.none) rfl (by simp) rfl rfl (by simp) rfl ?_ <;> (try simp [-cB, *]))
    | (refine AOps.pureG rfl (fun h => Pure.none) rfl (by first | rfl | (simp; rfl)) (by simp) (by simp) rfl ?_ <;> (try simp [-cB, *]))
    | (with_reducible intro _))
  all_goals (try rw [inR_i64])
  all_goals (split at h1 <;> omega)
theorem wrap_ok (n : Int) : Pure Tryz.prog 88 [.d (.v (.int .i64 n))] (.d (.v (.int .i64 (wrapM n)))) := by
  have h0 : inR .i64 (wrapM n) := by have := wrapM_bd n; rw [inR_i64]; omega
  have h1 := wrap64 h0
  refine Pure.run Tryz.func88 rfl (by simp [Tryz.f88]) ?_; simp [-cB, Tryz.f88]
  exact h1
def addM (a b : Int) : Int := wrapM (wrapM a + wrapM b)
def subM (a b : Int) : Int := wrapM (wrapM a - wrapM b)
def mulM (a b : Int) : Int := wrapM (wrapM a * wrapM b)
def negM (a : Int) : Int := wrapM (0 - wrapM a)
def divM (a b : Int) : Int × Int := if wrapM b = 0 then (0, 1) else (wrapM ((wrapM a).tdiv (wrapM b)), 0)
def modM (a b : Int) : Int × Int := if wrapM b = 0 then (0, 1) else (wrapM ((wrapM a).tmod (wrapM b)), 0)
theorem mul_bd {a b : Int} (ha : -32768 ≤ a ∧ a ≤ 32767) (hb : -32768 ≤ b ∧ b ≤ 32767) : -1073741824 ≤ a * b ∧ a * b ≤ 1073741824 := by
  have h1 : a * b ≤ a.natAbs * b.natAbs := by
    have : (a * b).natAbs = a.natAbs * b.natAbs := Int.natAbs_mul a b
    omega
  have h2 : -(a.natAbs * b.natAbs : Int) ≤ a * b := by
    have : (a * b).natAbs = a.natAbs * b.natAbs := Int.natAbs_mul a b
    omega
  have h3 : a.natAbs * b.natAbs ≤ 32768 * 32768 := Nat.mul_le_mul (by omega) (by omega)
  omega
def pr2 (p : Int × Int) : V := .tup [.d (.v (.int .i64 p.1)), .d (.v (.int .i64 p.2))]
theorem refAdd_ok (a b : Int) : Pure Tryz.prog 129 [.d (.v (.int .i64 a)), .d (.v (.int .i64 b))] (.d (.v (.int .i64 (addM a b)))) := by
  have ha := wrapM_bd a
  have hb := wrapM_bd b
  have h : inR .i64 (wrapM a + wrapM b) := by rw [inR_i64]; omega
  refine Pure.run Tryz.func129 rfl (by simp [Tryz.f129]) ?_; simp [-cB, Tryz.f129]
  try intro (_ : Nat → Nat)
  repeat' (first
    | (with_reducible refine And.intro ?_ ?_)
    | (refine condC_split (fun h => ?_) (fun h => ?_) <;> (try simp at h) <;> (try simp [-cB, *]))
    | (refine AOps.pureC rfl (refWrap_ok _) rfl rfl (by simp) rfl ?_ <;> (try simp [-cB, *]))
    | (refine AOps.lendC rfl (refWrap_ok _) rfl (by simp) rfl rfl (by simp) rfl ?_ <;> (try simp [-cB, *]))
    | (refine AOps.pureG rfl (fun h => refWrap_ok _) rfl (by first | rfl | (simp; rfl)) (by simp) (by simp) rfl ?_ <;> (try simp [-cB, *]))
    | (with_reducible intro _))
  rfl
theorem refSub_ok (a b : Int) : Pure Tryz.prog 183 [.d (.v (.int .i64 a)), .d (.v (.int .i64 b))] (.d (.v (.int .i64 (subM a b)))) := by
  have ha := wrapM_bd a
  have hb := wrapM_bd b
  have h : inR .i64 (wrapM a - wrapM b) := by rw [inR_i64]; omega
  refine Pure.run Tryz.func183 rfl (by simp [Tryz.f183]) ?_; simp [-cB, Tryz.f183]
  try intro (_ : Nat → Nat)
  repeat' (first
    | (with_reducible refine And.intro ?_ ?_)
    | (refine condC_split (fun h => ?_) (fun h => ?_) <;> (try simp at h) <;> (try simp [-cB, *]))
    | (refine AOps.pureC rfl (refWrap_ok _) rfl rfl (by simp) rfl ?_ <;> (try simp [-cB, *]))
    | (refine AOps.lendC rfl (refWrap_ok _) rfl (by simp) rfl rfl (by simp) rfl ?_ <;> (try simp [-cB, *]))
    | (refine AOps.pureG rfl (fun h => refWrap_ok _) rfl (by first | rfl | (simp; rfl)) (by simp) (by simp) rfl ?_ <;> (try simp [-cB, *]))
    | (with_reducible intro _))
  rfl
theorem refMul_ok (a b : Int) : Pure Tryz.prog 184 [.d (.v (.int .i64 a)), .d (.v (.int .i64 b))] (.d (.v (.int .i64 (mulM a b)))) := by
  have h : inR .i64 (wrapM a * wrapM b) := by have := mul_bd (wrapM_bd a) (wrapM_bd b); rw [inR_i64]; omega
  refine Pure.run Tryz.func184 rfl (by simp [Tryz.f184]) ?_; simp [-cB, Tryz.f184]
  try intro (_ : Nat → Nat)
  repeat' (first
    | (with_reducible refine And.intro ?_ ?_)
    | (refine condC_split (fun h => ?_) (fun h => ?_) <;> (try simp at h) <;> (try simp [-cB, *]))
    | (refine AOps.pureC rfl (refWrap_ok _) rfl rfl (by simp) rfl ?_ <;> (try simp [-cB, *]))
    | (refine AOps.lendC rfl (refWrap_ok _) rfl (by simp) rfl rfl (by simp) rfl ?_ <;> (try simp [-cB, *]))
    | (refine AOps.pureG rfl (fun h => refWrap_ok _) rfl (by first | rfl | (simp; rfl)) (by simp) (by simp) rfl ?_ <;> (try simp [-cB, *]))
    | (with_reducible intro _))
  rfl
theorem refNeg_ok (a : Int) : Pure Tryz.prog 133 [.d (.v (.int .i64 a))] (.d (.v (.int .i64 (negM a)))) := by
  have h : inR .i64 (0 - wrapM a) := by have := wrapM_bd a; rw [inR_i64]; omega
  rw [negM]
  generalize hx : 0 - wrapM a = x at *
  refine Pure.run Tryz.func133 rfl (by simp [Tryz.f133]) ?_; simp [-cB, Tryz.f133]
  try intro (_ : Nat → Nat)
  repeat' (first
    | (with_reducible refine And.intro ?_ ?_)
    | (refine condC_split (fun h => ?_) (fun h => ?_) <;> (try simp at h) <;> (try simp [-cB, *, hx]))
    | (refine AOps.pureC rfl (refWrap_ok _) rfl rfl (by simp) rfl ?_ <;> (try simp [-cB, *, hx]))
    | (refine AOps.lendC rfl (refWrap_ok _) rfl (by simp) rfl rfl (by simp) rfl ?_ <;> (try simp [-cB, *, hx]))
    | (refine AOps.pureG rfl (fun h => refWrap_ok _) rfl (by first | rfl | (simp; rfl)) (by simp) (by simp) rfl ?_ <;> (try simp [-cB, *, hx]))
    | (with_reducible intro _))
theorem tdiv_bd {a b : Int} (ha : -32768 ≤ a ∧ a ≤ 32767) : -32768 ≤ a.tdiv b ∧ a.tdiv b ≤ 32768 := by
  have : (a.tdiv b).natAbs ≤ a.natAbs := by rw [Int.natAbs_tdiv]; exact Nat.div_le_self _ _
  omega
theorem i64_tdiv {a b : Int} (ha : -32768 ≤ a ∧ a ≤ 32767) : IntKind.wrap .i64 (a.tdiv b) = a.tdiv b := wrap64 (by have := tdiv_bd (b := b) ha; rw [inR_i64]; omega)
theorem tmod_bd {a b : Int} (ha : -32768 ≤ a ∧ a ≤ 32767) : -32768 ≤ a.tmod b ∧ a.tmod b ≤ 32767 := by
  have h1 : (a.tmod b).natAbs = a.natAbs % b.natAbs := Int.natAbs_tmod a b
  have h2 : a.natAbs % b.natAbs ≤ a.natAbs := Nat.mod_le _ _
  have h3 : 0 ≤ a → 0 ≤ a.tmod b := fun h => Int.tmod_nonneg _ h
  have h4 : a < 0 → a.tmod b ≤ 0 := fun h => by
    have := Int.tmod_nonneg b (a := -a) (by omega)
    rw [Int.neg_tmod] at this
    omega
  generalize a.natAbs % b.natAbs = q at *
  omega
theorem refDiv_ok (a b : Int) : Pure Tryz.prog 185 [.d (.v (.int .i64 a)), .d (.v (.int .i64 b))] (pr2 (divM a b)) := by
  have h := i64_tdiv (b := wrapM b) (wrapM_bd a)
  unfold pr2 divM
  refine Pure.run Tryz.func185 rfl (by simp [Tryz.f185]) ?_; simp [-cB, Tryz.f185]
  try intro (_ : Nat → Nat)
  repeat' (first
    | (with_reducible refine And.intro ?_ ?_)
    | (refine condC_split (fun h => ?_) (fun h => ?_) <;> (try simp at h) <;> (try simp [-cB, *]))
    | (refine AOps.pureC rfl (refWrap_ok _) rfl rfl (by simp) rfl ?_ <;> (try simp [-cB, *]))
    | (refine AOps.lendC rfl (refWrap_ok _) rfl (by simp) rfl rfl (by simp) rfl ?_ <;> (try simp [-cB, *]))
    | (refine AOps.pureG rfl (fun h => refWrap_ok _) rfl (by first | rfl | (simp; rfl)) (by simp) (by simp) rfl ?_ <;> (try simp [-cB, *]))
    | (with_reducible intro _))
theorem refMod_ok (a b : Int) : Pure Tryz.prog 186 [.d (.v (.int .i64 a)), .d (.v (.int .i64 b))] (pr2 (modM a b)) := by
  have h := i64_tdiv (b := wrapM b) (wrapM_bd a)
  have hd := tdiv_bd (b := wrapM b) (wrapM_bd a)
  unfold pr2 modM
  refine Pure.run Tryz.func186 rfl (by simp [Tryz.f186]) ?_; simp [-cB, Tryz.f186]
  try intro (_ : Nat → Nat)
  repeat' (first
    | (with_reducible refine And.intro ?_ ?_)
    | (refine condC_split (fun h => ?_) (fun h => ?_) <;> (try simp at h) <;> (try simp [-cB, *]))
    | (refine AOps.pureC rfl (refWrap_ok _) rfl rfl (by simp) rfl ?_ <;> (try simp [-cB, *]))
    | (refine AOps.lendC rfl (refWrap_ok _) rfl (by simp) rfl rfl (by simp) rfl ?_ <;> (try simp [-cB, *]))
    | (refine AOps.pureG rfl (fun h => refWrap_ok _) rfl (by first | rfl | (simp; rfl)) (by simp) (by simp) rfl ?_ <;> (try simp [-cB, *]))
    | (with_reducible intro _))
  all_goals (have hm := tmod_bd (b := wrapM b) (wrapM_bd a))
  all_goals (have he := Int.tmod_def (wrapM a) (wrapM b))
  all_goals (rw [Int.mul_comm] at he)
  all_goals (have ha := wrapM_bd a)
  · rw [inR_i64]; omega
  · rw [inR_i64]; omega
  · rw [wrapM_id hm]; omega
end Go.Ab

namespace Go.Ab
def Ordr (l : Array Oper) : Nat → Array Bool → List Nat → Prop
  | 0, _, L => L = []
  | f + 1, ls, L => (Region.ready .any l ls = [] ∧ L = []) ∨ ∃ i L', L = i :: L' ∧ i ∈ Region.ready .any l ls ∧ Ordr l f (ls.setIfInBounds i true) L'
theorem linearise_ordr (l : Array Oper) : ∀ (f t : Nat) (ls : Array Bool), Ordr l f ls (Region.linearise.go .any l f t ls []) := by
  intro f
  induction f with
  | zero => intro t ls; rfl
  | succ f ih =>
    intro t ls
    simp only [Region.linearise.go]
    change Ordr l (f + 1) ls (match (Region.ready .any l ls)[t % (Region.ready .any l ls).length]? with
      | some i => Region.linearise.go .any l f (t / (Region.ready .any l ls).length) (ls.setIfInBounds i true) [i]
      | none => [].reverse)
    cases hi : (Region.ready .any l ls)[t % (Region.ready .any l ls).length]? with
    | none =>
      left
      refine ⟨?_, rfl⟩
      cases hr : Region.ready .any l ls with
      | nil => rfl
      | cons x xs =>
        rw [hr] at hi
        have hlt : t % (x :: xs).length < (x :: xs).length := Nat.mod_lt _ (by simp)
        simp at hi
        simp at hlt
        omega
    | some i =>
      right
      refine ⟨i, _, ?_, List.mem_of_getElem? hi, ih (t / (Region.ready .any l ls).length) _⟩
      simp only []
      rw [linearise_go_acc]
      rfl
theorem Ordr.run {F : Fence} {n : Nat} {P : Program} {l : Array Oper} {Q : Exit → Act → World → Prop} : ∀ (f : Nat) (ls : Array Bool) (L : List Nat) (a : Act) (w : World), wpAnyIn F n P .any l Q f ls a w → Ordr l f ls L → wpOpsIn F n P l Q L a w := by
  intro f
  induction f with
  | zero => intro ls L a w h hL; rw [show L = [] from hL]; exact h.2
  | succ f ih =>
    intro ls L a w h hL
    rcases hL with ⟨h1, rfl⟩ | ⟨i, L', rfl, hi, hL'⟩
    · exact h.1 h1
    · rw [wpOpsIn_cons]
      exact wpOpIn_mono (fun a w h2 => ih _ _ a w h2 hL') (h.2 i hi)
def addE : List Oper → Nat → Nat → List Oper
  | [], _, _ => []
  | o :: l, 0, i => { o with after := o.after.push ⟨i, .data⟩ } :: l
  | o :: l, j + 1, i => o :: addE l j i
theorem addE_len : ∀ (l : List Oper) (j i : Nat), (addE l j i).length = l.length
  | [], _, _ => rfl
  | _ :: _, 0, _ => rfl
  | o :: l, j + 1, i => by simp [addE, addE_len l j i]
theorem addE_ne {k : Nat} : ∀ (l : List Oper) (j i : Nat), k ≠ j → (addE l j i)[k]? = l[k]?
  | [], _, _, _ => rfl
  | o :: l, 0, i, h => by
    cases k with
    | zero => exact absurd rfl h
    | succ k => rfl
  | o :: l, j + 1, i, h => by
    cases k with
    | zero => rfl
    | succ k => simpa [addE] using addE_ne l j i (by omega)
theorem addE_eq : ∀ (l : List Oper) (j i : Nat), (addE l j i)[j]? = (l[j]?).map fun o => { o with after := o.after.push ⟨i, .data⟩ }
  | [], _, _ => rfl
  | o :: l, 0, i => rfl
  | o :: l, j + 1, i => by simpa [addE] using addE_eq l j i
theorem getD_true {ls : Array Bool} {i : Nat} (h : ls.getD i true = false) (b : Bool) : i < ls.size ∧ ls.getD i b = false := by
  have hi : i < ls.size := by
    rcases Nat.lt_or_ge i ls.size with h' | h'
    · exact h'
    · simp [Array.getD, Nat.not_lt.2 h'] at h
  exact ⟨hi, by rw [← h]; exact getD_lt hi⟩
theorem ready_ne {l : List Oper} {j i k : Nat} {ls : Array Bool} (h : k ≠ j) : k ∈ Region.ready .any (addE l j i).toArray ls ↔ k ∈ Region.ready .any l.toArray ls := by
  rw [mem_ready, mem_ready]
  simp only [List.getElem?_toArray, addE_ne l j i h]
theorem ready_sub {l : List Oper} {j i k : Nat} {ls : Array Bool} (h : k ∈ Region.ready .any (addE l j i).toArray ls) : k ∈ Region.ready .any l.toArray ls := by
  by_cases hk : k = j
  · subst hk
    rw [mem_ready] at h ⊢
    obtain ⟨h1, o, h2, h3⟩ := h
    simp only [List.getElem?_toArray, addE_eq] at h2
    obtain ⟨o', ho', rfl⟩ := Option.map_eq_some_iff.1 h2
    exact ⟨h1, o', by simpa using ho', fun e he hb => h3 e (by simp [he]) hb⟩
  · exact (ready_ne hk).1 h
theorem ready_listed {l : List Oper} {j i k : Nat} {ls : Array Bool} (hi : ls.getD i false = true) (h : k ∈ Region.ready .any l.toArray ls) : k ∈ Region.ready .any (addE l j i).toArray ls := by
  by_cases hk : k = j
  · subst hk
    rw [mem_ready] at h ⊢
    obtain ⟨h1, o, h2, h3⟩ := h
    refine ⟨h1, { o with after := o.after.push ⟨i, .data⟩ }, ?_, fun e he hb => ?_⟩
    · simp only [List.getElem?_toArray] at h2 ⊢
      rw [addE_eq, h2]; rfl
    · rcases Array.mem_push.1 he with he | rfl
      · exact h3 e he hb
      · exact hi
  · exact (ready_ne hk).2 h
theorem ready_nil_sub {l : List Oper} {j i : Nat} {ls : Array Bool} (h : Region.ready .any l.toArray ls = []) : Region.ready .any (addE l j i).toArray ls = [] := by
  rw [List.eq_nil_iff_forall_not_mem] at h ⊢
  exact fun k hk => h k (ready_sub hk)
theorem getD_setT {ls : Array Bool} {i k : Nat} (h : ls.getD k false = true) : (ls.setIfInBounds i true).getD k false = true := by
  by_cases hk : i = k
  · subst hk
    rcases Nat.lt_or_ge i ls.size with h' | h'
    · simp [Array.getD, h']
    · simp [Array.getD, Nat.not_lt.2 h'] at h
  · simp only [Array.getD_eq_getD_getElem?, Array.getElem?_setIfInBounds_ne hk]
    simpa [Array.getD_eq_getD_getElem?] using h
theorem Ordr.add {l : List Oper} {j i : Nat} : ∀ (f : Nat) (ls : Array Bool) (L : List Nat), ls.getD i false = true → Ordr l.toArray f ls L → Ordr (addE l j i).toArray f ls L := by
  intro f
  induction f with
  | zero => intro ls L _ h; exact h
  | succ f ih =>
    intro ls L hi h
    rcases h with ⟨h1, h2⟩ | ⟨k, L', h1, h2, h3⟩
    · exact .inl ⟨ready_nil_sub h1, h2⟩
    · exact .inr ⟨k, L', h1, ready_listed hi h2, ih _ _ (getD_setT hi) h3⟩
theorem Ordr.split {l : List Oper} {i j : Nat} (hij : i ≠ j) : ∀ (f : Nat) (ls : Array Bool) (L : List Nat), Ordr l.toArray f ls L → Ordr (addE l j i).toArray f ls L ∨ Ordr (addE l i j).toArray f ls L := by
  intro f
  induction f with
  | zero => intro ls L h; exact .inl h
  | succ f ih =>
    intro ls L h
    rcases h with ⟨h1, h2⟩ | ⟨k, L', h1, h2, h3⟩
    · exact .inl (.inl ⟨ready_nil_sub h1, h2⟩)
    · have hset : (ls.setIfInBounds k true).getD k false = true := by
        have := (getD_true (mem_ready.1 h2).1 false).1
        simp [Array.getD, this]
      by_cases hki : k = i
      · subst hki
        exact .inl (.inr ⟨k, L', h1, (ready_ne hij).2 h2, h3.add f _ _ hset⟩)
      · by_cases hkj : k = j
        · subst hkj
          exact .inr (.inr ⟨k, L', h1, (ready_ne (Ne.symm hij)).2 h2, h3.add f _ _ hset⟩)
        · rcases ih _ _ h3 with h4 | h4
          · exact .inl (.inr ⟨k, L', h1, (ready_ne hkj).2 h2, h4⟩)
          · exact .inr (.inr ⟨k, L', h1, (ready_ne hki).2 h2, h4⟩)
structure Alike (q : Nat → Nat) (o o' : Oper) : Prop where
  dst : o'.dst = o.dst
  op : o'.op = o.op
  type : o'.type = o.type
  pos : o'.pos = o.pos
  guard : o'.guard = o.guard.map fun g => (q g.1, g.2)
theorem Alike.wpIn {q : Nat → Nat} {o o' : Oper} (h : Alike q o o') {F : Fence} {n : Nat} {P : Program} {a : Act} {w : World} {K : Act → World → Prop} {Q : Exit → Act → World → Prop} : o'.wpIn F n P a w K Q = o.wpIn F n P a w K Q := by
  obtain ⟨h1, h2, h3, h4, h5⟩ := h
  obtain ⟨d, p, t, s, af, g⟩ := o
  obtain ⟨d', p', t', s', af', g'⟩ := o'
  simp only at h1 h2 h3 h4 h5
  subst h1; subst h2; subst h3; subst h4
  rfl
theorem wpOps_alike {q : Nat → Nat} {l l' : Array Oper} (h : ∀ i, (l[i]? = none ∧ l'[q i]? = none) ∨ ∃ o o', l[i]? = some o ∧ l'[q i]? = some o' ∧ Alike q o o') {F : Fence} {n : Nat} {P : Program} {Q : Exit → Act → World → Prop} :
    ∀ (L : List Nat) (a : Act) (w : World), wpOpsIn F n P l' Q (L.map q) a w → wpOpsIn F n P l Q L a w := by
  have hy : ∀ (tm : Array Value) j, yielded l' tm (q j) = yielded l tm j := by
    intro tm j
    unfold yielded
    rcases h j with ⟨h1, h2⟩ | ⟨o, o', h1, h2, h3⟩
    · rw [h1, h2]
    · rw [h1, h2]; simp only [Option.bind_some, h3.dst]
  intro L
  induction L with
  | nil => intro a w h; exact h
  | cons i L ih =>
    intro a w hh
    simp only [List.map_cons, wpOpsIn] at hh ⊢
    rcases h i with ⟨h1, h2⟩ | ⟨o, o', h1, h2, h3⟩
    · rw [h2] at hh; rw [h1]; exact ih a w hh
    · rw [h2] at hh
      rw [h1]
      simp only at hh ⊢
      have hw : Region.wanted o' (yielded l' a.tmps) = Region.wanted o (yielded l a.tmps) := by
        unfold Region.wanted
        rw [h3.guard]
        cases o.guard with
        | none => rfl
        | some g => simp only [Option.map_some, hy]
      rw [hw] at hh
      split
      · rename_i hc
        rw [if_pos hc, h3.wpIn] at hh
        exact Oper.wpIn_mono (fun a w => ih a w) hh
      · rename_i hc
        rw [if_neg hc, h3.dst] at hh
        refine ⟨?_, ih _ _ hh.2⟩
        have : o'.about P w a.eval = o.about P w a.eval := by
          unfold Oper.about; rw [h3.op, h3.type]
        rw [← this]; exact hh.1
def renO (q : List Nat) (o : Oper) : Oper := { o with after := o.after.map fun e => ⟨q.getD e.on 0, e.ground⟩, guard := o.guard.map fun g => (q.getD g.1 0, g.2) }
def atO (l : List Oper) (i : Nat) : Oper := l[i]?.getD default
def permL (p q : List Nat) (l : List Oper) : List Oper := p.map fun i => renO q (atO l i)
def permOk (p q : List Nat) (l : List Oper) : Bool :=
  p.length == l.length && q.length == l.length && (List.range l.length).all fun i => decide (p.getD i 0 < l.length) && decide (q.getD i 0 < l.length) && (p.getD (q.getD i 0) 0 == i) && (q.getD (p.getD i 0) 0 == i)
section
variable {P : Program} {n : Nat} {Q : AX → St → Prop}
def OrdR (P : Program) (n : Nat) (l : List Oper) (s : St) (Q : AX → St → Prop) : Prop := ∀ fo m a w, G fo n m s a w → ∀ L, Ordr l.toArray l.length (Array.replicate l.length false) L → wpOpsIn (wr fo.r) 0 P l.toArray (Post fo n m w Q) L a { w with drawn := w.drawn + 1 }
theorem OrdR.region {id : Nat} {l : List Oper} {s : St} (hm : P.follows .mixedOrders = true) (h : OrdR P n l s Q) : AWP P n (.region id l.toArray true) s Q := by
  intro fo m a w _ g
  refine wpIn_region_draw fun t => ?_
  simp only [Region.schedule, hm, Bool.true_or, if_true]
  refine h fo m a w g _ ?_
  have := linearise_ordr l.toArray l.length t (Array.replicate l.length false)
  simpa [Region.linearise] using this
theorem OrdR.edge {l : List Oper} {s : St} (i j : Nat) (hij : i ≠ j) (h1 : OrdR P n (addE l j i) s Q) (h2 : OrdR P n (addE l i j) s Q) : OrdR P n l s Q := by
  have key : ∀ (j i : Nat) {fo : FO} {a : Act} {w : World} {Q : Exit → Act → World → Prop} {L : List Nat}, wpOpsIn (wr fo.r) 0 P (addE l j i).toArray Q L a w → wpOpsIn (wr fo.r) 0 P l.toArray Q L a w := by
    intro j i fo a w Q L h
    refine wpOps_alike (q := id) (l' := (addE l j i).toArray) (fun k => ?_) L a w (by simpa using h)
    simp only [id_eq, List.getElem?_toArray]
    by_cases hk : k = j
    · subst hk
      rw [addE_eq]
      cases l[k]? with
      | none => exact .inl ⟨rfl, rfl⟩
      | some o => exact .inr ⟨o, _, rfl, rfl, ⟨rfl, rfl, rfl, rfl, by cases o.guard <;> rfl⟩⟩
    · rw [addE_ne l j i hk]
      cases l[k]? with
      | none => exact .inl ⟨rfl, rfl⟩
      | some o => exact .inr ⟨o, _, rfl, rfl, ⟨rfl, rfl, rfl, rfl, by cases o.guard <;> rfl⟩⟩
  intro fo m a w g L hL
  rcases Ordr.split hij _ _ _ hL with hL | hL
  · exact key j i (fo := fo) (h1 fo m a w g L (by rw [addE_len]; exact hL))
  · exact key i j (fo := fo) (h2 fo m a w g L (by rw [addE_len]; exact hL))
theorem Ordr.map {l l' : List Oper} {q p : Nat → Nat} (hlen : l'.length = l.length) (hl : ∀ i, i < l.length → q i < l.length ∧ p (q i) = i) (hp : ∀ i, i < l.length → p i < l.length ∧ q (p i) = i)
    (h : ∀ i, i < l.length → ∀ o, l[i]? = some o → ∃ o', l'[q i]? = some o' ∧ o'.after = o.after.map fun e => ⟨q e.on, e.ground⟩) (hin : ∀ (i : Nat) (o : Oper), l[i]? = some o → ∀ e ∈ o.after, e.on < l.length) :
    ∀ (f : Nat) (ls ls' : Array Bool) (L : List Nat), ls.size = l.length → ls'.size = l.length → (∀ i, i < l.length → ls'.getD (q i) false = ls.getD i false) → Ordr l.toArray f ls L → Ordr l'.toArray f ls' (L.map q) := by
  have rdy : ∀ (ls ls' : Array Bool), ls.size = l.length → ls'.size = l.length → (∀ i, i < l.length → ls'.getD (q i) false = ls.getD i false) → ∀ i, i < l.length → (q i ∈ Region.ready .any l'.toArray ls' ↔ i ∈ Region.ready .any l.toArray ls) := by
    intro ls ls' h1 h2 h3 i hi
    have ho := List.getElem?_eq_getElem hi
    obtain ⟨o', ho', ha⟩ := h i hi _ ho
    have ho2 : l'.toArray[q i]? = some o' := by rw [List.getElem?_toArray]; exact ho'
    have ho3 : l.toArray[i]? = some l[i] := by rw [List.getElem?_toArray]; exact ho
    have hg : ∀ k b, k < l.length → ls.getD k b = ls.getD k false := fun k b hk => getD_lt (by omega)
    have hg' : ∀ k b, k < l.length → ls'.getD k b = ls'.getD k false := fun k b hk => getD_lt (by omega)
    rw [mem_ready, mem_ready, hg i true hi, hg' _ true (hl i hi).1, h3 i hi, ho2, ho3]
    refine and_congr_right fun _ => ?_
    constructor
    · rintro ⟨o2, ho2, hk⟩
      obtain rfl := Option.some.inj ho2
      refine ⟨_, rfl, fun e he hb => ?_⟩
      have := hk ⟨q e.on, e.ground⟩ (by rw [ha]; exact Array.mem_map.2 ⟨e, he, rfl⟩) hb
      simp only at this
      rw [h3 _ (hin i _ ho e he)] at this
      exact this
    · rintro ⟨o2, ho2, hk⟩
      obtain rfl := Option.some.inj ho2
      refine ⟨_, rfl, fun e he hb => ?_⟩
      rw [ha] at he
      obtain ⟨e0, he0, rfl⟩ := Array.mem_map.1 he
      have := hk e0 he0 hb
      simp only
      rw [h3 _ (hin i _ ho e0 he0)]
      exact this
  intro f
  induction f with
  | zero => intro ls ls' L _ _ _ hL; rw [show L = [] from hL]; rfl
  | succ f ih =>
    intro ls ls' L h1 h2 h3 hL
    rcases hL with ⟨h4, rfl⟩ | ⟨k, L', rfl, h5, h6⟩
    · refine .inl ⟨?_, rfl⟩
      rw [List.eq_nil_iff_forall_not_mem] at h4 ⊢
      intro k hk
      have hkl : k < l.length := by
        obtain ⟨_, o, ho, _⟩ := mem_ready.1 hk
        have := (Array.getElem?_eq_some_iff.1 ho).1
        simp at this; omega
      obtain ⟨hp1, hp2⟩ := hp k hkl
      rw [← hp2] at hk
      exact h4 _ ((rdy ls ls' h1 h2 h3 (p k) hp1).1 hk)
    · have hkl : k < l.length := by
        obtain ⟨_, o, ho, _⟩ := mem_ready.1 h5
        have := (Array.getElem?_eq_some_iff.1 ho).1
        simpa using this
      refine .inr ⟨q k, L'.map q, rfl, (rdy ls ls' h1 h2 h3 k hkl).2 h5, ih _ _ _ (by simpa using h1) (by simpa using h2) (fun i hi => ?_) h6⟩
      by_cases hik : k = i
      · subst hik
        have := (hl k hkl).1
        simp [Array.getD, h1, h2, hkl, this]
      · have hq : q k ≠ q i := by
          intro e
          have e1 := (hl k hkl).2
          rw [e, (hl i hi).2] at e1
          exact hik e1.symm
        simp only [Array.getD_eq_getD_getElem?, Array.getElem?_setIfInBounds_ne hik, Array.getElem?_setIfInBounds_ne hq]
        simpa [Array.getD_eq_getD_getElem?] using h3 i hi
def inE (l : List Oper) : Bool := l.all fun o => (o.after.toList.all fun e => decide (e.on < l.length)) && (match o.guard with | some g => decide (g.1 < l.length) | none => true)
theorem OrdR.perm {l : List Oper} {s : St} (p q : List Nat) (hp : permOk p q l = true) (hi : inE l = true) (h : OrdR P n (permL p q l) s Q) : OrdR P n l s Q := by
  unfold permOk at hp
  simp only [Bool.and_eq_true, beq_iff_eq, List.all_eq_true, List.mem_range, decide_eq_true_eq] at hp
  obtain ⟨⟨p1, p2⟩, p3⟩ := hp
  have hlen : (permL p q l).length = l.length := by simp [permL, p1]
  have hat : ∀ i, i < l.length → (permL p q l)[q.getD i 0]? = some (renO q (atO l i)) := by
    intro i hi
    obtain ⟨⟨⟨a1, a2⟩, a3⟩, a4⟩ := p3 i hi
    unfold permL
    rw [List.getElem?_map, List.getElem?_eq_getElem (by rw [p1]; exact a2)]
    have : p[q.getD i 0]'(by rw [p1]; exact a2) = i := by
      have := a3
      rw [List.getD_eq_getElem?_getD, List.getElem?_eq_getElem (by rw [p1]; exact a2)] at this
      simpa using this
    rw [this]; rfl
  have hao : ∀ (i : Nat) (o : Oper), l[i]? = some o → atO l i = o := by intro i o h; unfold atO; rw [h]; rfl
  have q0 : ∀ i, l.length ≤ i → q.getD i 0 = 0 := by
    intro i hi; rw [List.getD_eq_getElem?_getD, List.getElem?_eq_none (by omega)]; rfl
  let qf : Nat → Nat := fun i => if i < l.length then q.getD i 0 else i
  let pf : Nat → Nat := fun i => if i < l.length then p.getD i 0 else i
  have hqf : ∀ i, i < l.length → qf i = q.getD i 0 := fun i hi => if_pos hi
  have hpf : ∀ i, i < l.length → pf i = p.getD i 0 := fun i hi => if_pos hi
  unfold inE at hi
  simp only [List.all_eq_true, Bool.and_eq_true, decide_eq_true_eq] at hi
  intro fo m a w g L hL
  have hL2 : Ordr (permL p q l).toArray l.length (Array.replicate l.length false) (L.map qf) := by
    refine Ordr.map (p := pf) hlen (fun i hi => ?_) (fun i hi => ?_) (fun i hi' o ho => ?_) (fun i o ho e he => ?_) _ _ _ _ (by simp) (by simp) (fun i hi => ?_) hL
    · obtain ⟨⟨⟨a1, a2⟩, a3⟩, a4⟩ := p3 i hi
      rw [hqf i hi, hpf _ a2]; exact ⟨a2, a3⟩
    · obtain ⟨⟨⟨a1, a2⟩, a3⟩, a4⟩ := p3 i hi
      rw [hpf i hi, hqf _ a1]; exact ⟨a1, a4⟩
    · rw [hqf i hi']
      refine ⟨_, hat i hi', ?_⟩
      rw [hao i o ho]
      simp only [renO]
      have hoi := (hi o (List.mem_of_getElem? ho)).1
      refine Array.map_congr_left (fun e he => ?_)
      rw [hqf _ (by simpa using hoi e (by simpa using he))]
    · have hoi := (hi o (List.mem_of_getElem? ho)).1
      exact hoi e (by simpa using he)
    · simp [Array.getD, hi, hqf i hi, (p3 i hi).1.1.2]
  refine wpOps_alike (q := qf) (l' := (permL p q l).toArray) (fun i => ?_) L a _ (h fo m a w g _ (by rw [hlen]; exact hL2))
  simp only [List.getElem?_toArray]
  by_cases hi' : i < l.length
  · right
    refine ⟨l[i], renO q l[i], List.getElem?_eq_getElem hi', ?_, ⟨rfl, rfl, rfl, rfl, ?_⟩⟩
    · rw [hqf i hi', hat i hi', hao i _ (List.getElem?_eq_getElem hi')]
    · simp only [renO]
      have hoi := (hi l[i] (List.getElem_mem hi')).2
      cases hg : l[i].guard with
      | none => rfl
      | some g =>
        rw [hg] at hoi
        simp only [decide_eq_true_eq] at hoi
        simp only [Option.map_some, hqf _ hoi]
  · left
    rw [show qf i = i from if_neg hi']
    exact ⟨List.getElem?_eq_none (by omega), List.getElem?_eq_none (by rw [hlen]; omega)⟩
theorem OrdR.m0 {l : List Oper} {s : St} (rg : List (Option (Nat × Nat))) (us : List V) (ok : okM n l rg = true)
    (h : runM P l.toArray (l.zip rg) (s.fr.map fun e => (e.1, 0, e.2)) [] [s.L] us [] (fun fr ks Ls => Q .normal ⟨frAt ks ks.length fr, Ls.getD ks.length []⟩)) : OrdR P n l s Q := by
  intro fo m a w g L hL
  refine Ordr.run _ _ _ _ _ ?_ hL
  simp only [okM, Bool.and_eq_true, beq_iff_eq, decide_eq_true_eq, List.all_eq_true] at ok
  obtain ⟨⟨⟨⟨⟨⟨o1, o2⟩, o3⟩, o4⟩, o5⟩, o6⟩, o7⟩ := ok
  obtain ⟨tr, frE, ks, Ls, h1, h2, -, h4⟩ := runM_tr (n := n) (l.zip rg) _ [] [s.L] us [] rfl h
  simp only [List.nil_append, List.length_nil] at h1 h2 h4
  have := any_orderM (P := P) (n := n) (Q := Q) (l := l) (rg := rg) (lds := loudsOf rg) (ks := ks) (Ls := fun p => ([s.L] ++ Ls).getD p []) o3 h1 (fun i r o hr ho => by
      have hil := (List.getElem?_eq_some_iff.1 ho).1
      exact h2 i r (o, rg[i]'(by omega)) hr (by rw [List.getElem?_zip_eq_some]; exact ⟨ho, List.getElem?_eq_getElem (by omega)⟩))
    o1 o2 o4 o5 o6 (fun o ho t ht => by simpa using o7 o ho t ht) rfl h4 (fo := fo) (m0 := m) (w0 := w)
    (fun e he => by obtain ⟨x, hx, rfl⟩ := List.mem_map.1 he; exact (g.fr x.1 x.2 hx).1) (fun e he => by obtain ⟨x, hx, rfl⟩ := List.mem_map.1 he; rfl)
    l.length m 0 (Array.replicate l.length false) (List.range l.length) a { w with drawn := w.drawn + 1 } (by simp) (fun i hi _ => by simpa using hi) ?_
  · exact this
  · have st : Step w (own m) { w with drawn := w.drawn + 1 } (own m) := ⟨rfl, rfl, rfl, Nat.le_refl _, fun _ _ _ => rfl, fun _ _ h => h⟩
    have mono : ∀ {v : Value} {x : V}, RelV w (OO fo m) m v x → RelV { w with drawn := w.drawn + 1 } (OO fo m) m v x := fun h => h.mono st.keep (fun _ _ h => h) (fun _ _ h => h)
    have hfalse : ∀ j, (Array.replicate l.length false).getD j false = false := by intro j; simp [Array.getD]
    refine ⟨g.size, g.defers, g.inv.grown (Nat.le_refl _) (fun _ _ => rfl), st, by simp, Nat.zero_le _, ?_, ?_, ?_, ?_, ?_, ?_⟩
    · intro q j _; rw [hfalse]; simp
    · intro j r _ hb; rw [hfalse] at hb; cases hb
    · intro j o r d _ _ _ hb; rw [hfalse] at hb; cases hb
    · intro t _
      rw [killR_self (Nat.zero_le _)]
      have : (getM t (s.fr.map fun e => (e.1, 0, e.2))).2 = s.get t := by
        unfold St.get
        generalize s.fr = fr
        induction fr with
        | nil => rfl
        | cons e fr ih =>
          obtain ⟨k, x⟩ := e
          simp only [List.map_cons, getM, getF]
          split
          · rfl
          · exact ih
      rw [this]
      exact mono (get_rel g t)
    · intro e he _
      obtain ⟨x, hx, rfl⟩ := List.mem_map.1 he
      rw [killR_self (Nat.zero_le _)]
      exact mono (g.fr x.1 x.2 hx).2
    · intro j o _ hb; rw [hfalse] at hb; cases hb
theorem AWP.regionE {id : Nat} {l : List Oper} {s : St} (hm : P.follows .mixedOrders = true) (h : OrdR P n l s (fun x s' => ∀ bs, Q x (s'.opn bs))) : AWP P n (.region id l.toArray true) s Q :=
  AWP.opened (OrdR.region hm h)
theorem AWP.openPre {c : Code} {s : St} (h : ∀ bs, AWP P n c (s.opn bs) Q) : AWP P n c s Q := fun fo m a w hr g => by
  obtain ⟨bs, g2⟩ := g.opn
  exact h bs fo m a w hr g2
theorem AWP.merge {c c2 : Code} {s : St} (s0 : St) (h1 : AWP P n c s (fun x s' => x = .normal ∧ Wk n s' s0)) (h2 : ∀ bs, AWP P n c2 (s0.opn bs) Q) : AWP P n (.seq c c2) s Q :=
  AWP.seq (AWP.mono h1 fun x s' ⟨hx, hw⟩ => by subst hx; exact AWP.weaken hw (AWP.openPre h2))
attribute [simp] addE renO atO permL
end
end Go.Ab

namespace Go.Ab
open Go.Proofs
theorem lo_set (a : List Int) (n i : Nat) (hi : i < a.length) (hn : a.length ≤ n) : ((a.take i).map wrapM ++ List.replicate (n - i) 0).set i (wrapM a[i]) = (a.take (i + 1)).map wrapM ++ List.replicate (n - (i + 1)) 0 := by
  have h1 : ((a.take i).map wrapM).length = i := by simp; omega
  rw [List.set_append, if_neg (by omega), h1, Nat.sub_self, show n - i = (n - (i + 1)) + 1 by omega, List.replicate_succ, List.set_cons_zero, List.take_add_one (l := a), List.getElem?_eq_getElem hi, List.map_append, List.append_assoc]
  rfl
set_option maxHeartbeats 4000000 in
set_option maxRecDepth 20000 in
theorem frameVm_ok (s : GStory) (r : Nat) (e : Int) (n : Nat) (he : s.Entry[r]? = some e) (hn : s.Tables.Locals[r]? = some (n : Int)) (hn2 : n ≤ 1000000) (a : List Int) (ha : a.length ≤ n) (base : Int) :
    Pure Tryz.prog 47 [.agg (s.enc.map .d), .d (.v (.int .i64 r)), .d (.sl (encI a)), .d (.v (.int .i64 base))] (.agg ((GFrame.mk r e base (a.map wrapM ++ List.replicate (n - a.length) 0)).enc.map .d)) := by
  obtain ⟨hr1, he1⟩ := List.getElem?_eq_some_iff.1 he
  obtain ⟨hr2, hn1⟩ := List.getElem?_eq_some_iff.1 hn
  refine Pure.run Tryz.func47 rfl (by simp [Tryz.f47]) ?_; simp [-cB, Tryz.f47]
  intro bs
  refine AWP.regionE Tryz.mixed (OrdR.edge 13 15 (by decide) (OrdR.m0 [some (0, 2), some (0, 2), some (0, 2), some (0, 2), some (0, 2), some (0, 2), some (0, 2), some (0, 0), some (0, 0), some (0, 0), some (0, 0), some (0, 0), some (0, 0), none, some (1, 2), none, none] [] (by kernel_rfl) ?_) (OrdR.perm [0, 1, 2, 3, 4, 5, 6, 7, 8, 9, 10, 11, 12, 15, 13, 14, 16] [0, 1, 2, 3, 4, 5, 6, 7, 8, 9, 10, 11, 12, 14, 15, 13, 16] (by kernel_rfl) (by kernel_rfl) (OrdR.m0 [some (0, 2), some (0, 2), some (0, 2), some (0, 2), some (0, 2), some (0, 2), some (0, 2), some (0, 1), some (0, 1), some (0, 1), some (0, 1), some (0, 1), some (0, 1), none, none, some (2, 2), none] [] (by kernel_rfl) ?_)))
  all_goals
    simp [-cB, he1, hr1, hn1, hr2]
    refine ⟨⟨by simp only [maxLen]; omega, by omega⟩, fun bs1 => ?_⟩
    refine AWP.loopS [8, 9, 27, 28, 29] a.length (fun i => [(29, .d (.v (.int .i64 i)))]) (fun i => [(25, .row 3 1 (dd (encI ((a.take i).map wrapM ++ List.replicate (n - i) 0))))]) (fun _ => True) (by rfl) (by simp [dd, encI, -encI_replicate]) ?_
    intro i hi _
    rcases Nat.lt_or_eq_of_le hi with hlt | heq
    · have h64 : inR .i64 ((i : Int) + 1) := by rw [inR_i64]; omega
      have hlt' : (i : Int) < a.length := by omega
      have hls := lo_set a n i hlt ha
      have hll : ((a.take i).map wrapM ++ List.replicate (n - i) 0).length = n := by simp; omega
      have hw := wrap_ok a[i]
      generalize (a.take i).map wrapM ++ List.replicate (n - i) 0 = ls at *
      simp [-cB, hlt, hlt']
      refine AWP.regionM0 [some (0, 0), some (0, 0), some (0, 0), some (0, 0), some (0, 0), some (0, 0), none] [.d (.v (.int .i64 (wrapM a[i])))] Tryz.mixed (by kernel_rfl) ?_
      simp [-cB, hw.ok, hll, hlt, hlt', h64]
      exact ⟨by omega, by rw [hls, List.map_take]⟩
    · simp [-cB, heq, GFrame.enc]
end Go.Ab

namespace Go.Ab
def atI (l : List Int) (i : Int) : Int := if i < 0 then 0 else l[i.toNat]?.getD 0
def isT (n : Nat) (x : Int) : Bool := decide (1 ≤ x ∧ x < n)
theorem isT_iff {n : Nat} {x : Int} : isT n x = true ↔ 1 ≤ x ∧ x < n := by simp [isT]
def chainM (nx : List Int) (n : Nat) : Nat → Int → List Int
  | 0, _ => []
  | k + 1, c => if isT n c then c :: chainM nx n k (atI nx c) else []
theorem chainM_len (nx : List Int) (n : Nat) : ∀ k c, (chainM nx n k c).length ≤ k
  | 0, c => by simp [chainM]
  | k + 1, c => by
    rw [chainM]
    split
    · have := chainM_len nx n k (atI nx c); simp; omega
    · simp
theorem chainM_mem {nx : List Int} {n : Nat} : ∀ {k c x}, x ∈ chainM nx n k c → 1 ≤ x ∧ x < n
  | 0, c, x, h => by simp [chainM] at h
  | k + 1, c, x, h => by
    rw [chainM] at h
    split at h
    · rename_i hc
      rcases List.mem_cons.1 h with rfl | h
      · exact isT_iff.1 hc
      · exact chainM_mem h
    · simp at h
inductive Ch (nx : List Int) (n : Nat) : Int → List Int → Prop
  | nil : Ch nx n 0 []
  | cons {c : Int} {l : List Int} (h : 1 ≤ c ∧ c < n) (t : Ch nx n (atI nx c) l) : Ch nx n c (c :: l)
theorem nodup_lt {n : Nat} {l : List Int} (h : l.Nodup) (hm : ∀ x ∈ l, 1 ≤ x ∧ x < n) : l.length < n ∨ l = [] := by
  have key : ∀ (n : Nat) (l : List Int), l.Nodup → (∀ x ∈ l, 1 ≤ x ∧ x < n) → l.length ≤ n - 1 := by
    intro n
    induction n with
    | zero =>
      intro l _ hm
      cases l with
      | nil => simp
      | cons x l => have := hm x List.mem_cons_self; omega
    | succ n ih =>
      intro l hd hm
      by_cases hn : (n : Int) ∈ l
      · have h1 := ih (l.erase n) (hd.erase _) (fun x hx => by
          have h2 := hm x (List.mem_of_mem_erase hx)
          have h3 : x ≠ n := fun e => by subst e; exact (hd.not_mem_erase hx)
          omega)
        rw [List.length_erase_of_mem hn] at h1
        have := List.length_pos_of_mem hn
        have h4 := hm n hn
        omega
      · have := ih l hd (fun x hx => by
          have h2 := hm x hx
          have h3 : x ≠ n := fun e => hn (e ▸ hx)
          omega)
        omega
  cases l with
  | nil => exact .inr rfl
  | cons x l =>
    have := key n _ h hm
    have h2 := hm x List.mem_cons_self
    left
    simp at this ⊢
    omega
structure Tree where
  Par : List Int
  Chi : List Int
  Nxt : List Int
structure Nest (t : Tree) (n : Nat) (ls : Int → List Int) : Prop where
  pos : 0 < n
  lp : t.Par.length = n
  lc : t.Chi.length = n
  ln : t.Nxt.length = n
  p0 : atI t.Par 0 = 0
  c0 : atI t.Chi 0 = 0
  n0 : atI t.Nxt 0 = 0
  ch : ∀ x : Int, 1 ≤ x → x < n → Ch t.Nxt n (atI t.Chi x) (ls x)
  par : ∀ x : Int, 1 ≤ x → x < n → ∀ y ∈ ls x, atI t.Par y = x
  up : ∀ x : Int, 1 ≤ x → x < n → atI t.Par x = 0 ∧ atI t.Nxt x = 0 ∨ (1 ≤ atI t.Par x ∧ atI t.Par x < n) ∧ x ∈ ls (atI t.Par x)
  ends : ∀ x : Int, 1 ≤ x → x < n → ∃ l, Ch t.Par n x l
def kidsM (t : Tree) (x : Int) : List Int := if isT t.Par.length x then chainM t.Nxt t.Par.length t.Par.length (atI t.Chi x) else []
def upsM (t : Tree) (x : Int) : List Int := chainM t.Par t.Par.length t.Par.length x
def topM (t : Tree) (x : Int) : Int := (upsM t x).getLastD 0
def listedB (t : Tree) (x : Int) : Bool :=
  (kidsM t x).all (fun y => decide (atI t.Par y = x) && decide ((kidsM t x).count y = 1)) &&
    decide ((match (kidsM t x).getLast? with | some y => atI t.Nxt y | none => atI t.Chi x) = 0)
theorem chain_ch {nx : List Int} {n : Nat} (h0 : atI nx 0 = 0) : ∀ {k : Nat} {c : Int}, (chainM nx n k c).length < k ∨ (chainM nx n k c).Nodup ∧ n ≤ k →
    (match (chainM nx n k c).getLast? with | some y => atI nx y | none => c) = 0 → Ch nx n c (chainM nx n k c) := by
  intro k
  induction k with
  | zero =>
    intro c hd he
    simp only [chainM, List.getLast?_nil] at he ⊢
    subst he
    exact .nil
  | succ k ih =>
    intro c hd he
    rw [chainM] at hd he ⊢
    by_cases hc : isT n c = true
    · rw [if_pos hc] at hd he ⊢
      have hlast : (match (chainM nx n k (atI nx c)).getLast? with | some y => atI nx y | none => atI nx c) = 0 := by
        rw [List.getLast?_cons] at he
        cases hl : (chainM nx n k (atI nx c)).getLast? with
        | none => simpa [hl] using he
        | some y => simpa [hl] using he
      refine .cons (isT_iff.1 hc) ?_
      cases k with
      | zero => simp only [chainM, List.getLast?_nil] at hlast ⊢; rw [hlast]; exact .nil
      | succ k =>
        refine ih ?_ hlast
        rcases hd with hd | ⟨hd, hn⟩
        · left; simpa using hd
        · -- there are fewer things than rounds
          left
          have h1 := nodup_lt hd (fun x hx => by
            rcases List.mem_cons.1 hx with rfl | hx
            · exact isT_iff.1 hc
            · exact chainM_mem hx)
          rcases h1 with h1 | h1
          · simp only [List.length_cons] at h1; omega
          · cases h1
    · rw [if_neg hc] at hd he ⊢
      simp only [List.getLast?_nil] at he
      subst he
      exact .nil
end Go.Ab

namespace Go.Ab
open Go.Proofs
def GWorld.tree (w : GWorld) : Tree := ⟨w.Parent, w.Child, w.Next⟩
def nxtN (nx : List Int) : Nat → Int → Int
  | 0, c => c
  | k + 1, c => nxtN nx k (atI nx c)
theorem nxtN_succ (nx : List Int) : ∀ (k : Nat) (c : Int), nxtN nx (k + 1) c = atI nx (nxtN nx k c)
  | 0, c => rfl
  | k + 1, c => by rw [nxtN, nxtN_succ nx k]; rfl
theorem chainM_go (nx : List Int) (n : Nat) : ∀ (i k : Nat) (c : Int), (∀ j < i, isT n (nxtN nx j c) = true) → chainM nx n (i + k) c = (List.range i).map (fun j => nxtN nx j c) ++ chainM nx n k (nxtN nx i c)
  | 0, k, c, _ => by rw [Nat.zero_add]; rfl
  | i + 1, k, c, h => by
    have h0 : isT n c = true := h 0 (by omega)
    rw [show i + 1 + k = (i + k) + 1 by omega, chainM, if_pos h0, chainM_go nx n i k (atI nx c) (fun j hj => h (j + 1) (by omega)), List.range_succ_eq_map]
    simp [nxtN, Function.comp_def]
def firstN (nx : List Int) (i : Nat) (c : Int) : List Int := (List.range i).map (fun j => nxtN nx j c)
theorem firstN_succ (nx : List Int) (i : Nat) (c : Int) : firstN nx (i + 1) c = firstN nx i c ++ [nxtN nx i c] := by simp [firstN, List.range_succ]
theorem firstN_len (nx : List Int) (i : Nat) (c : Int) : (firstN nx i c).length = i := by simp [firstN]
theorem chainM_stop {nx : List Int} {n i : Nat} {c : Int} (h : ∀ j < i, isT n (nxtN nx j c) = true) (hs : isT n (nxtN nx i c) = false ∨ i = n) (hi : i ≤ n) : chainM nx n n c = firstN nx i c := by
  have := chainM_go nx n i (n - i) c h
  rw [show i + (n - i) = n by omega] at this
  rw [this]
  rcases hs with hs | hs
  · cases hk : n - i with
    | zero => simp [chainM, firstN]
    | succ k => rw [chainM, if_neg (by simp [hs])]; simp [firstN]
  · rw [hs, Nat.sub_self]; simp [chainM, firstN]
theorem refIsW_ok (w : GWorld) (x : Int) : Pure Tryz.prog 76 [.agg (w.enc.map .d), .d (.v (.int .i64 x))] (.d (.v (.bool (isT w.Parent.length x)))) := by
  refine Pure.run Tryz.func76 rfl (by simp [Tryz.f76]) ?_; simp [-cB, Tryz.f76]
  simp [isT]
theorem refIs20_ok (w : GWorld) (x : Int) : Pure Tryz.prog 177 [.agg (w.enc.map .d), .d (.v (.int .i64 x))] (.d (.v (.bool (isT w.Parent.length x)))) := by
  refine Pure.run Tryz.func177 rfl (by simp [Tryz.f177]) ?_; simp [-cB, Tryz.f177]
  simp [isT]
theorem refAt_ok (l : List Int) (i : Int) : Pure Tryz.prog 142 [.d (.sl (encI l)), .d (.v (.int .i64 i))] (.d (.v (.int .i64 (atI l i)))) := by
  unfold atI
  refine Pure.run Tryz.func142 rfl (by simp [Tryz.f142]) ?_; simp [-cB, Tryz.f142]
  repeat' (first
    | (with_reducible refine And.intro ?_ ?_)
    | (refine condC_split (fun h => ?_) (fun h => ?_) <;> (try simp at h) <;> (try simp [-cB, *]))
    | (refine AOps.pureC rfl (Pure.none) rfl rfl (by simp) rfl ?_ <;> (try simp [-cB, *]))
    | (refine AOps.lendC rfl (Pure.none) rfl (by simp) rfl rfl (by simp) rfl ?_ <;> (try simp [-cB, *]))
    | (refine AOps.pureG rfl (fun h => Pure.none) rfl (by first | rfl | (simp; rfl)) (by simp) (by simp) rfl ?_ <;> (try simp [-cB, *]))
    | (with_reducible intro _))
  · rw [List.getElem?_eq_none (by omega)]; rfl
  · omega
theorem refChildren_ok (w : GWorld) (hw : w.wf) (x : Int) : Pure Tryz.prog 79 [.agg (w.enc.map .d), .d (.v (.int .i64 x))] (.d (.sl (encI (kidsM w.tree x)))) := by
  have hl := GWorld.wl_Parent hw
  have e1 : w.tree.Par = w.Parent := rfl
  have e2 : w.tree.Chi = w.Child := rfl
  have e3 : w.tree.Nxt = w.Next := rfl
  unfold kidsM
  rw [e1, e2, e3]
  cases hx : isT w.Parent.length x with
  | false =>
    refine Pure.run Tryz.func79 rfl (by simp [Tryz.f79]) ?_; simp [-cB, Tryz.f79]
    try intro (_ : Nat → Nat)
    refine AOps.weaken (Wk.nil' (t := 5) rfl) ?_
    repeat' (first
      | (with_reducible refine And.intro ?_ ?_)
      | (refine condC_split (fun h => ?_) (fun h => ?_) <;> (try simp at h) <;> (try simp [-cB, *]))
      | (refine AOps.pureC rfl (refIsW_ok _ _) rfl rfl (by simp) rfl ?_ <;> (try simp [-cB, *]))
      | (refine AOps.pureC rfl (refAt_ok _ _) rfl rfl (by simp) rfl ?_ <;> (try simp [-cB, *]))
      | (refine AOps.lendC rfl (refIsW_ok _ _) rfl (by simp) rfl rfl (by simp) rfl ?_ <;> (try simp [-cB, *]))
      | (refine AOps.lendC rfl (refAt_ok _ _) rfl (by simp) rfl rfl (by simp) rfl ?_ <;> (try simp [-cB, *]))
      | (refine AOps.pureG rfl (fun h => refIsW_ok _ _) rfl (by first | rfl | (simp; rfl)) (by simp) (by simp) rfl ?_ <;> (try simp [-cB, *]))
      | (refine AOps.pureG rfl (fun h => refAt_ok _ _) rfl (by first | rfl | (simp; rfl)) (by simp) (by simp) rfl ?_ <;> (try simp [-cB, *]))
      | (with_reducible intro _))
  | true =>
    refine Pure.run Tryz.func79 rfl (by simp [Tryz.f79]) ?_; simp [-cB, Tryz.f79]
    try intro (_ : Nat → Nat)
    repeat' (first
      | (with_reducible refine And.intro ?_ ?_)
      | (refine condC_split (fun h => ?_) (fun h => ?_) <;> (try simp at h) <;> (try simp [-cB, *]))
      | (refine AOps.pureC rfl (refIsW_ok _ _) rfl rfl (by simp) rfl ?_ <;> (try simp [-cB, *]))
      | (refine AOps.pureC rfl (refAt_ok _ _) rfl rfl (by simp) rfl ?_ <;> (try simp [-cB, *]))
      | (refine AOps.lendC rfl (refIsW_ok _ _) rfl (by simp) rfl rfl (by simp) rfl ?_ <;> (try simp [-cB, *]))
      | (refine AOps.lendC rfl (refAt_ok _ _) rfl (by simp) rfl rfl (by simp) rfl ?_ <;> (try simp [-cB, *]))
      | (refine AOps.pureG rfl (fun h => refIsW_ok _ _) rfl (by first | rfl | (simp; rfl)) (by simp) (by simp) rfl ?_ <;> (try simp [-cB, *]))
      | (refine AOps.pureG rfl (fun h => refAt_ok _ _) rfl (by first | rfl | (simp; rfl)) (by simp) (by simp) rfl ?_ <;> (try simp [-cB, *]))
      | (with_reducible intro _))
    generalize hc : atI w.Child x = c
    refine AWP.weaken (Wk.own' (t := 5) (h := 30) (k := 1) (ty := 3) rfl (by simp)) ?_
    refine AWP.loopS [2, 5, 6, 7] w.Parent.length (fun i => [(6, .d (.v (.int .i64 (nxtN w.Next i c)))), (7, .d (.v (.int .i64 i)))]) (fun i => [(30, .row 3 1 (dd (encI (firstN w.Next i c))))]) (fun i => ∀ j < i, isT w.Parent.length (nxtN w.Next j c) = true) (by rfl) (by simp [nxtN, firstN, encI]) ?_
    intro i hi hH
    have hs := nxtN_succ w.Next i c
    have hf := firstN_succ w.Next i c
    have hfl := firstN_len w.Next i c
    rcases Nat.lt_or_eq_of_le hi with hlt | rfl
    · have a4 : inR .i64 ((i : Int) + 1) := by rw [inR_i64]; omega
      cases hT : isT w.Parent.length (nxtN w.Next i c) with
      | false =>
        have hst := chainM_stop hH (.inl hT) hi
        simp [-cB, hlt]
        refine AOps.pureG rfl (fun h => refIsW_ok w _) rfl (by first | rfl | (simp; rfl)) (by simp) (by simp) rfl ?_
        simp [-cB, hT, hst]
      | true =>
        have hH2 : ∀ j < i + 1, isT w.Parent.length (nxtN w.Next j c) = true := fun j hj => by
          rcases Nat.lt_or_ge j i with h | h
          · exact hH j h
          · rw [show j = i by omega]; exact hT
        simp [-cB, hlt]
        refine AOps.pureG rfl (fun h => refIsW_ok w _) rfl (by first | rfl | (simp; rfl)) (by simp) (by simp) rfl ?_
        simp [-cB, hT, hs, hf, hfl]
        refine ⟨by omega, ?_⟩
        repeat' (first
          | (with_reducible refine And.intro ?_ ?_)
          | (refine condC_split (fun h => ?_) (fun h => ?_) <;> (try simp at h) <;> (try simp [-cB, *]))
          | (refine AOps.pureC rfl (refAt_ok _ _) rfl rfl (by simp) rfl ?_ <;> (try simp [-cB, *]))
          | (refine AOps.lendC rfl (refAt_ok _ _) rfl (by simp) rfl rfl (by simp) rfl ?_ <;> (try simp [-cB, *]))
          | (refine AOps.pureG rfl (fun h => refAt_ok _ _) rfl (by first | rfl | (simp; rfl)) (by simp) (by simp) rfl ?_ <;> (try simp [-cB, *]))
          | (with_reducible intro _))
        exact hH2 _ (by assumption)
    · have hst := chainM_stop hH (.inr rfl) hi
      simp [-cB]
      refine AOps.pureG rfl (fun h => refIsW_ok w _) rfl (by first | rfl | (simp; rfl)) (by simp) (by simp) rfl ?_
      simp [-cB, hst]
theorem atI_elem {l : List Int} {x : Int} (h : isT l.length x = true) : l[x.toNat]'(by have := isT_iff.1 h; omega) = atI l x := by
  have := isT_iff.1 h
  rw [atI, if_neg (by omega), List.getElem?_eq_getElem (by omega)]
  rfl
theorem atI_getD {l : List Int} {x : Int} (h : isT l.length x = true) : l[x.toNat]?.getD 0 = atI l x := by
  have := isT_iff.1 h
  rw [atI, if_neg (by omega)]
theorem chainM_in {nx : List Int} {n i : Nat} {c : Int} (h : ∀ j < i + 1, isT n (nxtN nx j c) = true) (hi : i < n) : nxtN nx i c ∈ chainM nx n n c := by
  have := chainM_go nx n (i + 1) (n - (i + 1)) c h
  rw [show i + 1 + (n - (i + 1)) = n by omega] at this
  rw [this]
  exact List.mem_append_left _ (List.mem_map.2 ⟨i, List.mem_range.2 (by omega), rfl⟩)
theorem refwithin_ok (w : GWorld) (hw : w.wf) (x y : Int) : Pure Tryz.prog 80 [.agg (w.enc.map .d), .d (.v (.int .i64 x)), .d (.v (.int .i64 y))] (.d (.v (.bool (decide (y ∈ upsM w.tree x))))) := by
  have hl := GWorld.wl_Parent hw
  have e1 : w.tree.Par = w.Parent := rfl
  unfold upsM
  rw [e1]
  refine Pure.run Tryz.func80 rfl (by simp [Tryz.f80]) ?_; simp [-cB, Tryz.f80]
  try intro (_ : Nat → Nat)
  refine AWP.loopS [1, 2, 3, 7] w.Parent.length (fun i => [(1, .d (.v (.int .i64 (nxtN w.Parent i x)))), (7, .d (.v (.int .i64 i)))]) (fun _ => []) (fun i => ∀ j < i, isT w.Parent.length (nxtN w.Parent j x) = true ∧ nxtN w.Parent j x ≠ y) (by rfl) (by simp [nxtN]) ?_
  intro i hi hH
  have hs := nxtN_succ w.Parent i x
  have hno : y ∉ firstN w.Parent i x := by
    intro hm
    obtain ⟨j, hj, he⟩ := List.mem_map.1 hm
    exact (hH j (List.mem_range.1 hj)).2 he
  rcases Nat.lt_or_eq_of_le hi with hlt | rfl
  · have a4 : inR .i64 ((i : Int) + 1) := by rw [inR_i64]; omega
    cases hT : isT w.Parent.length (nxtN w.Parent i x) with
    | false =>
      have hst := chainM_stop (fun j hj => (hH j hj).1) (.inl hT) hi
      simp [-cB, hlt]
      refine AOps.pureG rfl (fun h => refIsW_ok w _) rfl (by first | rfl | (simp; rfl)) (by simp) (by simp) rfl ?_
      simp [-cB, hT, hst, hno]
    | true =>
      have hg := atI_elem hT
      have hg2 := atI_getD hT
      have hb := isT_iff.1 hT
      have hH2 : ∀ j < i + 1, isT w.Parent.length (nxtN w.Parent j x) = true := fun j hj => by
        rcases Nat.lt_or_ge j i with h | h
        · exact (hH j h).1
        · rw [show j = i by omega]; exact hT
      have hin := chainM_in hH2 hlt
      simp [-cB, hlt]
      refine AOps.pureG rfl (fun h => refIsW_ok w _) rfl (by first | rfl | (simp; rfl)) (by simp) (by simp) rfl ?_
      by_cases hxy : nxtN w.Parent i x = y
      · rw [hxy] at hin hT
        simp [-cB, hT, hxy, hin]
      · simp [-cB, hT, hs, hg, hg2, hxy, a4]
        refine ⟨by omega, by omega, fun j hj => ?_⟩
        rcases Nat.lt_or_ge j i with h | h
        · exact hH j h
        · rw [show j = i by omega]; exact ⟨hT, hxy⟩
  · have hst := chainM_stop (fun j hj => (hH j hj).1) (.inr rfl) hi
    simp [-cB]
    refine AOps.pureG rfl (fun h => refIsW_ok w _) rfl (by first | rfl | (simp; rfl)) (by simp) (by simp) rfl ?_
    simp [-cB, hst, hno]
theorem reftop_ok (w : GWorld) (hw : w.wf) (x : Int) : Pure Tryz.prog 81 [.agg (w.enc.map .d), .d (.v (.int .i64 x))] (.d (.v (.int .i64 (topM w.tree x)))) := by
  have hl := GWorld.wl_Parent hw
  have e1 : w.tree.Par = w.Parent := rfl
  unfold topM upsM
  rw [e1]
  refine Pure.run Tryz.func81 rfl (by simp [Tryz.f81]) ?_; simp [-cB, Tryz.f81]
  try intro (_ : Nat → Nat)
  refine AWP.loopS [1, 2, 5, 6] w.Parent.length (fun i => [(1, .d (.v (.int .i64 (nxtN w.Parent i x)))), (5, .d (.v (.int .i64 ((firstN w.Parent i x).getLastD 0)))), (6, .d (.v (.int .i64 i)))]) (fun _ => []) (fun i => ∀ j < i, isT w.Parent.length (nxtN w.Parent j x) = true) (by rfl) (by simp [nxtN, firstN]) ?_
  intro i hi hH
  have hs := nxtN_succ w.Parent i x
  have hf := firstN_succ w.Parent i x
  rcases Nat.lt_or_eq_of_le hi with hlt | rfl
  · have a4 : inR .i64 ((i : Int) + 1) := by rw [inR_i64]; omega
    cases hT : isT w.Parent.length (nxtN w.Parent i x) with
    | false =>
      have hst := chainM_stop hH (.inl hT) hi
      simp [-cB, hlt]
      refine AOps.pureG rfl (fun h => refIsW_ok w _) rfl (by first | rfl | (simp; rfl)) (by simp) (by simp) rfl ?_
      simp [-cB, hT, hst]
    | true =>
      have hg := atI_elem hT
      have hg2 := atI_getD hT
      have hb := isT_iff.1 hT
      have hH2 : ∀ j < i + 1, isT w.Parent.length (nxtN w.Parent j x) = true := fun j hj => by
        rcases Nat.lt_or_ge j i with h | h
        · exact hH j h
        · rw [show j = i by omega]; exact hT
      simp [-cB, hlt]
      refine AOps.pureG rfl (fun h => refIsW_ok w _) rfl (by first | rfl | (simp; rfl)) (by simp) (by simp) rfl ?_
      simp [-cB, hT, hs, hf, hg, hg2, a4]
      exact ⟨by omega, by omega, hH2⟩
  · have hst := chainM_stop hH (.inr rfl) hi
    simp [-cB]
    refine AOps.pureG rfl (fun h => refIsW_ok w _) rfl (by first | rfl | (simp; rfl)) (by simp) (by simp) rfl ?_
    simp [-cB, hst]
theorem refCount_ok (l : List Int) (hl : l.length ≤ 1000000000000000) (x : Int) : Pure Tryz.prog 78 [.d (.sl (encI l)), .d (.v (.int .i64 x))] (.d (.v (.int .i64 (l.count x)))) := by
  refine Pure.run Tryz.func78 rfl (by simp [Tryz.f78]) ?_; simp [-cB, Tryz.f78]
  refine AWP.loopL [0, 1, 5, 6] l (fun pre => [(5, .d (.v (.int .i64 (pre.count x)))), (6, .d (.v (.int .i64 pre.length)))]) (fun _ => []) (fun _ => True) (by rfl) (by omega) (by simp) ?_ ?_
  · rintro pre y post hsp - hlt hge a4
    have hc : inR .i64 ((pre.count x : Int) + 1) := by
      have := List.count_le_length (a := x) (l := pre)
      rw [inR_i64]; omega
    clear hsp
    by_cases hy : y = x
    · subst hy
      simp [-cB, hlt, hge, a4, hc, List.count_append]
    · simp [-cB, hlt, hge, a4, hy, List.count_append, List.count_cons]
  · intro _
    simp
end Go.Ab
