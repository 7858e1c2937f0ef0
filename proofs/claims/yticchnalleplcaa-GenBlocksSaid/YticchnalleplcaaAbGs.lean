/-
  The structs of this seat's program as structures, by program (gsatool.py).
-/
import Derived.Test.YticchnalleplcaaAbV
import Derived.Test.YticchnalleplcaaAbT
set_option linter.unusedSimpArgs false
set_option linter.unusedVariables false
namespace Go.Ab
structure GWay where
  Dir : Int
  To : Int
  When : Int
  Else : Int
  deriving DecidableEq
def GWay.enc (x : GWay) : List D := [D.v (.int .i64 x.Dir), D.v (.int .i64 x.To), D.v (.int .i64 x.When), D.v (.int .i64 x.Else)]
@[simp] theorem GWay.enc_length (x : GWay) : x.enc.length = 4 := rfl
@[simp] theorem GWay.enc_0 (x : GWay) : x.enc[0]? = some (D.v (.int .i64 x.Dir)) := rfl
@[simp] theorem GWay.encg_0 (x : GWay) (h : 0 < x.enc.length) : x.enc[0] = D.v (.int .i64 x.Dir) := rfl
@[simp] theorem GWay.enc_1 (x : GWay) : x.enc[1]? = some (D.v (.int .i64 x.To)) := rfl
@[simp] theorem GWay.encg_1 (x : GWay) (h : 1 < x.enc.length) : x.enc[1] = D.v (.int .i64 x.To) := rfl
@[simp] theorem GWay.enc_2 (x : GWay) : x.enc[2]? = some (D.v (.int .i64 x.When)) := rfl
@[simp] theorem GWay.encg_2 (x : GWay) (h : 2 < x.enc.length) : x.enc[2] = D.v (.int .i64 x.When) := rfl
@[simp] theorem GWay.enc_3 (x : GWay) : x.enc[3]? = some (D.v (.int .i64 x.Else)) := rfl
@[simp] theorem GWay.encg_3 (x : GWay) (h : 3 < x.enc.length) : x.enc[3] = D.v (.int .i64 x.Else) := rfl
@[simp] theorem GWay.fzV (L : Heap) (x : GWay) : V.fzs L (x.enc.map V.d) = x.enc.map V.d := by simp [GWay.enc, V.fzs, V.fz]
@[simp] theorem GWay.eqV (x y : GWay) : eqVs (x.enc.map V.d) (y.enc.map V.d) = some (decide (x = y)) := by
  rcases x with ⟨a_0, a_1, a_2, a_3⟩
  rcases y with ⟨b_0, b_1, b_2, b_3⟩
  simp only [GWay.enc, List.map, eqVs, vals, eqVals, eqV1, if_true, Option.some.injEq, bytes_beq]
  rw [Bool.eq_iff_iff]
  simp [and_assoc]
@[simp] theorem GWay.fitV (x : GWay) : fitVs [.i .i64, .i .i64, .i .i64, .i .i64] (x.enc.map V.d) = true := by
  simp [GWay.enc, fitVs, vals, fits, fit1]
def GWay.zero : GWay := ⟨0, 0, 0, 0⟩
theorem GWay.zero_enc : GWay.zero.enc = [D.v (.int .i64 0), D.v (.int .i64 0), D.v (.int .i64 0), D.v (.int .i64 0)] := rfl
@[simp] theorem GWay.getZ (o : Option GWay) : (o.map GWay.enc).getD [D.v (.int .i64 0), D.v (.int .i64 0), D.v (.int .i64 0), D.v (.int .i64 0)] = (o.getD GWay.zero).enc := by cases o <;> rfl
@[simp] theorem GWay.getV (o : Option GWay) : (o.map (fun x => x.enc.map V.d)).getD [V.d (D.v (.int .i64 0)), V.d (D.v (.int .i64 0)), V.d (D.v (.int .i64 0)), V.d (D.v (.int .i64 0))] = ((o.getD GWay.zero).enc).map V.d := by cases o <;> rfl
theorem GWay.cellAt (l : List GWay) (i j : Nat) (z : D) (h : GWay.zero.enc[j]? = some z) : cellAt (dd (l.map GWay.enc)) i j [V.d z] = V.d (((l[i]?.getD GWay.zero).enc[j]?).getD default) := by
  unfold Go.Ab.cellAt
  rw [dd_get, List.getElem?_map]
  cases hl : l[i]? with
  | none => simp [h]
  | some a =>
    have hj := (List.getElem?_eq_some_iff.1 h).1
    have hj' : j < a.enc.length := by rw [GWay.enc_length] at hj ⊢; exact hj
    simp only [Option.map_some, List.getElem?_map, List.getElem?_eq_getElem hj', Option.getD_some]
@[simp] theorem GWay.cellAt_0 (l : List GWay) (i : Nat) : Go.Ab.cellAt (dd (l.map GWay.enc)) i 0 [V.d (D.v (.int .i64 0))] = V.d (D.v (.int .i64 (l[i]?.getD GWay.zero).Dir)) := (GWay.cellAt l i 0 (D.v (.int .i64 0)) rfl).trans (by simp)
@[simp] theorem GWay.cellAt_1 (l : List GWay) (i : Nat) : Go.Ab.cellAt (dd (l.map GWay.enc)) i 1 [V.d (D.v (.int .i64 0))] = V.d (D.v (.int .i64 (l[i]?.getD GWay.zero).To)) := (GWay.cellAt l i 1 (D.v (.int .i64 0)) rfl).trans (by simp)
@[simp] theorem GWay.cellAt_2 (l : List GWay) (i : Nat) : Go.Ab.cellAt (dd (l.map GWay.enc)) i 2 [V.d (D.v (.int .i64 0))] = V.d (D.v (.int .i64 (l[i]?.getD GWay.zero).When)) := (GWay.cellAt l i 2 (D.v (.int .i64 0)) rfl).trans (by simp)
@[simp] theorem GWay.cellAt_3 (l : List GWay) (i : Nat) : Go.Ab.cellAt (dd (l.map GWay.enc)) i 3 [V.d (D.v (.int .i64 0))] = V.d (D.v (.int .i64 (l[i]?.getD GWay.zero).Else)) := (GWay.cellAt l i 3 (D.v (.int .i64 0)) rfl).trans (by simp)
@[simp] theorem GWay.aggAt (l : List GWay) (i : Nat) : Go.Ab.aggAt (dd (l.map GWay.enc)) i 0 4 [V.d (D.v (.int .i64 0)), V.d (D.v (.int .i64 0)), V.d (D.v (.int .i64 0)), V.d (D.v (.int .i64 0))] = (l[i]?.getD GWay.zero).enc.map V.d := by
  unfold Go.Ab.aggAt
  rw [dd_get, List.getElem?_map]
  cases l[i]? with
  | none => rfl
  | some x => simp; cases x; rfl
@[simp] theorem GWay.dropAll (x : GWay) : List.drop 4 x.enc = [] := rfl
@[simp] theorem GWay.dropAllv (x : GWay) : List.drop 4 (x.enc.map V.d) = [] := rfl
@[simp] theorem GWay.enc_all (x : GWay) : x.enc.take 4 = x.enc := rfl
@[simp] theorem GWay.enc_allv (x : GWay) : List.take 4 (x.enc.map V.d) = x.enc.map V.d := rfl
def GWay.wf (x : GWay) : Prop := inR .i64 x.Dir ∧ inR .i64 x.To ∧ inR .i64 x.When ∧ inR .i64 x.Else
theorem GWay.wf_Dir {x : GWay} (h : x.wf) : inR .i64 x.Dir := h.1
theorem GWay.wf_To {x : GWay} (h : x.wf) : inR .i64 x.To := h.2.1
theorem GWay.wf_When {x : GWay} (h : x.wf) : inR .i64 x.When := h.2.2.1
theorem GWay.wf_Else {x : GWay} (h : x.wf) : inR .i64 x.Else := h.2.2.2
theorem tyK_40 : tyK Go.Proofs.Try.prog 40 = .st [3, 3, 3, 3] := by kernel_rfl
theorem tyK_3 : tyK Go.Proofs.Try.prog 3 = .int .i64 := by kernel_rfl
theorem GWay.of {ys : List D} (h : HasT Go.Proofs.Try.prog 40 ys) : ∃ x : GWay, ys = x.enc ∧ x.wf := by
  have h' := HasT.st_inv h tyK_40
  obtain ⟨a0_, r0, hr0, t0, h0⟩ := h'
  obtain ⟨a1_, r1, hr1, t1, h1⟩ := h0
  obtain ⟨a2_, r2, hr2, t2, h2⟩ := h1
  obtain ⟨a3_, r3, hr3, t3, h3⟩ := h2
  simp only [HasTs] at h3
  subst h3
  subst hr3
  subst hr2
  subst hr1
  subst hr0
  obtain ⟨a0_', rfl, a0_w⟩ := HasT.int_inv t0 tyK_3
  obtain ⟨a1_', rfl, a1_w⟩ := HasT.int_inv t1 tyK_3
  obtain ⟨a2_', rfl, a2_w⟩ := HasT.int_inv t2 tyK_3
  obtain ⟨a3_', rfl, a3_w⟩ := HasT.int_inv t3 tyK_3
  exact ⟨⟨a0_', a1_', a2_', a3_'⟩, rfl, ⟨a0_w, a1_w, a2_w, a3_w⟩⟩
structure GThing where
  Title : Int
  Text : Int
  Parent : Int
  Flags : Int
  Room : Bool
  Props : (List Int)
  Words : (List ByteArray)
  Adjs : (List ByteArray)
  Ways : (List GWay)
  deriving DecidableEq
def GThing.enc (x : GThing) : List D := [D.v (.int .i64 x.Title), D.v (.int .i64 x.Text), D.v (.int .i64 x.Parent), D.v (.int .i64 x.Flags), D.v (.bool x.Room), D.sl (encI x.Props), D.sl (encS x.Words), D.sl (encS x.Adjs), D.sl (x.Ways.map GWay.enc)]
@[simp] theorem GThing.enc_length (x : GThing) : x.enc.length = 9 := rfl
@[simp] theorem GThing.enc_0 (x : GThing) : x.enc[0]? = some (D.v (.int .i64 x.Title)) := rfl
@[simp] theorem GThing.encg_0 (x : GThing) (h : 0 < x.enc.length) : x.enc[0] = D.v (.int .i64 x.Title) := rfl
@[simp] theorem GThing.enc_1 (x : GThing) : x.enc[1]? = some (D.v (.int .i64 x.Text)) := rfl
@[simp] theorem GThing.encg_1 (x : GThing) (h : 1 < x.enc.length) : x.enc[1] = D.v (.int .i64 x.Text) := rfl
@[simp] theorem GThing.enc_2 (x : GThing) : x.enc[2]? = some (D.v (.int .i64 x.Parent)) := rfl
@[simp] theorem GThing.encg_2 (x : GThing) (h : 2 < x.enc.length) : x.enc[2] = D.v (.int .i64 x.Parent) := rfl
@[simp] theorem GThing.enc_3 (x : GThing) : x.enc[3]? = some (D.v (.int .i64 x.Flags)) := rfl
@[simp] theorem GThing.encg_3 (x : GThing) (h : 3 < x.enc.length) : x.enc[3] = D.v (.int .i64 x.Flags) := rfl
@[simp] theorem GThing.enc_4 (x : GThing) : x.enc[4]? = some (D.v (.bool x.Room)) := rfl
@[simp] theorem GThing.encg_4 (x : GThing) (h : 4 < x.enc.length) : x.enc[4] = D.v (.bool x.Room) := rfl
@[simp] theorem GThing.enc_5 (x : GThing) : x.enc[5]? = some (D.sl (encI x.Props)) := rfl
@[simp] theorem GThing.encg_5 (x : GThing) (h : 5 < x.enc.length) : x.enc[5] = D.sl (encI x.Props) := rfl
@[simp] theorem GThing.enc_6 (x : GThing) : x.enc[6]? = some (D.sl (encS x.Words)) := rfl
@[simp] theorem GThing.encg_6 (x : GThing) (h : 6 < x.enc.length) : x.enc[6] = D.sl (encS x.Words) := rfl
@[simp] theorem GThing.enc_7 (x : GThing) : x.enc[7]? = some (D.sl (encS x.Adjs)) := rfl
@[simp] theorem GThing.encg_7 (x : GThing) (h : 7 < x.enc.length) : x.enc[7] = D.sl (encS x.Adjs) := rfl
@[simp] theorem GThing.enc_8 (x : GThing) : x.enc[8]? = some (D.sl (x.Ways.map GWay.enc)) := rfl
@[simp] theorem GThing.encg_8 (x : GThing) (h : 8 < x.enc.length) : x.enc[8] = D.sl (x.Ways.map GWay.enc) := rfl
@[simp] theorem GThing.fzV (L : Heap) (x : GThing) : V.fzs L (x.enc.map V.d) = x.enc.map V.d := by simp [GThing.enc, V.fzs, V.fz]
def GThing.zero : GThing := ⟨0, 0, 0, 0, false, [], [], [], []⟩
theorem GThing.zero_enc : GThing.zero.enc = [D.v (.int .i64 0), D.v (.int .i64 0), D.v (.int .i64 0), D.v (.int .i64 0), D.v (.bool false), D.sl [], D.sl [], D.sl [], D.sl []] := rfl
@[simp] theorem GThing.getZ (o : Option GThing) : (o.map GThing.enc).getD [D.v (.int .i64 0), D.v (.int .i64 0), D.v (.int .i64 0), D.v (.int .i64 0), D.v (.bool false), D.sl [], D.sl [], D.sl [], D.sl []] = (o.getD GThing.zero).enc := by cases o <;> rfl
@[simp] theorem GThing.getV (o : Option GThing) : (o.map (fun x => x.enc.map V.d)).getD [V.d (D.v (.int .i64 0)), V.d (D.v (.int .i64 0)), V.d (D.v (.int .i64 0)), V.d (D.v (.int .i64 0)), V.d (D.v (.bool false)), V.d (D.sl []), V.d (D.sl []), V.d (D.sl []), V.d (D.sl [])] = ((o.getD GThing.zero).enc).map V.d := by cases o <;> rfl
theorem GThing.cellAt (l : List GThing) (i j : Nat) (z : D) (h : GThing.zero.enc[j]? = some z) : cellAt (dd (l.map GThing.enc)) i j [V.d z] = V.d (((l[i]?.getD GThing.zero).enc[j]?).getD default) := by
  unfold Go.Ab.cellAt
  rw [dd_get, List.getElem?_map]
  cases hl : l[i]? with
  | none => simp [h]
  | some a =>
    have hj := (List.getElem?_eq_some_iff.1 h).1
    have hj' : j < a.enc.length := by rw [GThing.enc_length] at hj ⊢; exact hj
    simp only [Option.map_some, List.getElem?_map, List.getElem?_eq_getElem hj', Option.getD_some]
@[simp] theorem GThing.cellAt_0 (l : List GThing) (i : Nat) : Go.Ab.cellAt (dd (l.map GThing.enc)) i 0 [V.d (D.v (.int .i64 0))] = V.d (D.v (.int .i64 (l[i]?.getD GThing.zero).Title)) := (GThing.cellAt l i 0 (D.v (.int .i64 0)) rfl).trans (by simp)
@[simp] theorem GThing.cellAt_1 (l : List GThing) (i : Nat) : Go.Ab.cellAt (dd (l.map GThing.enc)) i 1 [V.d (D.v (.int .i64 0))] = V.d (D.v (.int .i64 (l[i]?.getD GThing.zero).Text)) := (GThing.cellAt l i 1 (D.v (.int .i64 0)) rfl).trans (by simp)
@[simp] theorem GThing.cellAt_2 (l : List GThing) (i : Nat) : Go.Ab.cellAt (dd (l.map GThing.enc)) i 2 [V.d (D.v (.int .i64 0))] = V.d (D.v (.int .i64 (l[i]?.getD GThing.zero).Parent)) := (GThing.cellAt l i 2 (D.v (.int .i64 0)) rfl).trans (by simp)
@[simp] theorem GThing.cellAt_3 (l : List GThing) (i : Nat) : Go.Ab.cellAt (dd (l.map GThing.enc)) i 3 [V.d (D.v (.int .i64 0))] = V.d (D.v (.int .i64 (l[i]?.getD GThing.zero).Flags)) := (GThing.cellAt l i 3 (D.v (.int .i64 0)) rfl).trans (by simp)
@[simp] theorem GThing.cellAt_4 (l : List GThing) (i : Nat) : Go.Ab.cellAt (dd (l.map GThing.enc)) i 4 [V.d (D.v (.bool false))] = V.d (D.v (.bool (l[i]?.getD GThing.zero).Room)) := (GThing.cellAt l i 4 (D.v (.bool false)) rfl).trans (by simp)
@[simp] theorem GThing.cellAt_5 (l : List GThing) (i : Nat) : Go.Ab.cellAt (dd (l.map GThing.enc)) i 5 [V.d (D.sl [])] = V.d (D.sl (encI (l[i]?.getD GThing.zero).Props)) := (GThing.cellAt l i 5 (D.sl []) rfl).trans (by simp)
@[simp] theorem GThing.cellAt_6 (l : List GThing) (i : Nat) : Go.Ab.cellAt (dd (l.map GThing.enc)) i 6 [V.d (D.sl [])] = V.d (D.sl (encS (l[i]?.getD GThing.zero).Words)) := (GThing.cellAt l i 6 (D.sl []) rfl).trans (by simp)
@[simp] theorem GThing.cellAt_7 (l : List GThing) (i : Nat) : Go.Ab.cellAt (dd (l.map GThing.enc)) i 7 [V.d (D.sl [])] = V.d (D.sl (encS (l[i]?.getD GThing.zero).Adjs)) := (GThing.cellAt l i 7 (D.sl []) rfl).trans (by simp)
@[simp] theorem GThing.cellAt_8 (l : List GThing) (i : Nat) : Go.Ab.cellAt (dd (l.map GThing.enc)) i 8 [V.d (D.sl [])] = V.d (D.sl ((l[i]?.getD GThing.zero).Ways.map GWay.enc)) := (GThing.cellAt l i 8 (D.sl []) rfl).trans (by simp)
@[simp] theorem GThing.aggAt (l : List GThing) (i : Nat) : Go.Ab.aggAt (dd (l.map GThing.enc)) i 0 9 [V.d (D.v (.int .i64 0)), V.d (D.v (.int .i64 0)), V.d (D.v (.int .i64 0)), V.d (D.v (.int .i64 0)), V.d (D.v (.bool false)), V.d (D.sl []), V.d (D.sl []), V.d (D.sl []), V.d (D.sl [])] = (l[i]?.getD GThing.zero).enc.map V.d := by
  unfold Go.Ab.aggAt
  rw [dd_get, List.getElem?_map]
  cases l[i]? with
  | none => rfl
  | some x => simp; cases x; rfl
@[simp] theorem GThing.dropAll (x : GThing) : List.drop 9 x.enc = [] := rfl
@[simp] theorem GThing.dropAllv (x : GThing) : List.drop 9 (x.enc.map V.d) = [] := rfl
@[simp] theorem GThing.enc_all (x : GThing) : x.enc.take 9 = x.enc := rfl
@[simp] theorem GThing.enc_allv (x : GThing) : List.take 9 (x.enc.map V.d) = x.enc.map V.d := rfl
def GThing.wf (x : GThing) : Prop := inR .i64 x.Title ∧ inR .i64 x.Text ∧ inR .i64 x.Parent ∧ inR .i64 x.Flags ∧ x.Props.length * 8 ≤ 140737488351232 ∧ (∀ y0 : Int, y0 ∈ x.Props → inR .i64 y0) ∧ x.Words.length * 16 ≤ 140737488351232 ∧ (∀ y0 : ByteArray, y0 ∈ x.Words → y0.size ≤ 140737488351232) ∧ x.Adjs.length * 16 ≤ 140737488351232 ∧ (∀ y0 : ByteArray, y0 ∈ x.Adjs → y0.size ≤ 140737488351232) ∧ x.Ways.length * 32 ≤ 140737488351232 ∧ (∀ y0 : GWay, y0 ∈ x.Ways → y0.wf)
theorem GThing.wf_Title {x : GThing} (h : x.wf) : inR .i64 x.Title := h.1
theorem GThing.wf_Text {x : GThing} (h : x.wf) : inR .i64 x.Text := h.2.1
theorem GThing.wf_Parent {x : GThing} (h : x.wf) : inR .i64 x.Parent := h.2.2.1
theorem GThing.wf_Flags {x : GThing} (h : x.wf) : inR .i64 x.Flags := h.2.2.2.1
theorem GThing.wl_Props {x : GThing} (h : x.wf) : x.Props.length * 8 ≤ 140737488351232 := h.2.2.2.2.1
theorem GThing.wf_Props {x : GThing} (h : x.wf) : (∀ y0 : Int, y0 ∈ x.Props → inR .i64 y0) := h.2.2.2.2.2.1
theorem GThing.wl_Words {x : GThing} (h : x.wf) : x.Words.length * 16 ≤ 140737488351232 := h.2.2.2.2.2.2.1
theorem GThing.wf_Words {x : GThing} (h : x.wf) : (∀ y0 : ByteArray, y0 ∈ x.Words → y0.size ≤ 140737488351232) := h.2.2.2.2.2.2.2.1
theorem GThing.wl_Adjs {x : GThing} (h : x.wf) : x.Adjs.length * 16 ≤ 140737488351232 := h.2.2.2.2.2.2.2.2.1
theorem GThing.wf_Adjs {x : GThing} (h : x.wf) : (∀ y0 : ByteArray, y0 ∈ x.Adjs → y0.size ≤ 140737488351232) := h.2.2.2.2.2.2.2.2.2.1
theorem GThing.wl_Ways {x : GThing} (h : x.wf) : x.Ways.length * 32 ≤ 140737488351232 := h.2.2.2.2.2.2.2.2.2.2.1
theorem GThing.wf_Ways {x : GThing} (h : x.wf) : (∀ y0 : GWay, y0 ∈ x.Ways → y0.wf) := h.2.2.2.2.2.2.2.2.2.2.2
theorem tyK_38 : tyK Go.Proofs.Try.prog 38 = .st [3, 3, 3, 3, 4, 23, 22, 22, 36] := by kernel_rfl
theorem tyK_4 : tyK Go.Proofs.Try.prog 4 = .bool := by kernel_rfl
theorem tyK_23 : tyK Go.Proofs.Try.prog 23 = .sl 3 8 := by kernel_rfl
theorem tyK_22 : tyK Go.Proofs.Try.prog 22 = .sl 9 16 := by kernel_rfl
theorem tyK_9 : tyK Go.Proofs.Try.prog 9 = .str := by kernel_rfl
theorem tyK_36 : tyK Go.Proofs.Try.prog 36 = .sl 40 32 := by kernel_rfl
theorem GThing.of {ys : List D} (h : HasT Go.Proofs.Try.prog 38 ys) : ∃ x : GThing, ys = x.enc ∧ x.wf := by
  have h' := HasT.st_inv h tyK_38
  obtain ⟨a0_, r0, hr0, t0, h0⟩ := h'
  obtain ⟨a1_, r1, hr1, t1, h1⟩ := h0
  obtain ⟨a2_, r2, hr2, t2, h2⟩ := h1
  obtain ⟨a3_, r3, hr3, t3, h3⟩ := h2
  obtain ⟨a4_, r4, hr4, t4, h4⟩ := h3
  obtain ⟨a5_, r5, hr5, t5, h5⟩ := h4
  obtain ⟨a6_, r6, hr6, t6, h6⟩ := h5
  obtain ⟨a7_, r7, hr7, t7, h7⟩ := h6
  obtain ⟨a8_, r8, hr8, t8, h8⟩ := h7
  simp only [HasTs] at h8
  subst h8
  subst hr8
  subst hr7
  subst hr6
  subst hr5
  subst hr4
  subst hr3
  subst hr2
  subst hr1
  subst hr0
  obtain ⟨a0_', rfl, a0_w⟩ := HasT.int_inv t0 tyK_3
  obtain ⟨a1_', rfl, a1_w⟩ := HasT.int_inv t1 tyK_3
  obtain ⟨a2_', rfl, a2_w⟩ := HasT.int_inv t2 tyK_3
  obtain ⟨a3_', rfl, a3_w⟩ := HasT.int_inv t3 tyK_3
  obtain ⟨a4_', rfl⟩ := HasT.bool_inv t4 tyK_4
  obtain ⟨a5_0, rfl, a5_h, a5_l, a5_w⟩ := HasT.sl_inv t5 tyK_23
  obtain ⟨a5_', rfl, a5_a⟩ := map_of (f := (fun y => [D.v (.int .i64 y)])) (p := fun (y : Int) => inR .i64 y) (fun a5_e hx => by
    have a5_q := a5_h a5_e hx
    obtain ⟨a5_e', rfl, a5_ew⟩ := HasT.int_inv a5_q tyK_3
    exact ⟨a5_e', rfl, a5_ew⟩)
  obtain ⟨a6_0, rfl, a6_h, a6_l, a6_w⟩ := HasT.sl_inv t6 tyK_22
  obtain ⟨a6_', rfl, a6_a⟩ := map_of (f := (fun y => [D.v (.string y)])) (p := fun (y : ByteArray) => y.size ≤ 140737488351232) (fun a6_e hx => by
    have a6_q := a6_h a6_e hx
    obtain ⟨a6_e', rfl, a6_ew⟩ := HasT.str_inv a6_q tyK_9
    exact ⟨a6_e', rfl, a6_ew⟩)
  obtain ⟨a7_0, rfl, a7_h, a7_l, a7_w⟩ := HasT.sl_inv t7 tyK_22
  obtain ⟨a7_', rfl, a7_a⟩ := map_of (f := (fun y => [D.v (.string y)])) (p := fun (y : ByteArray) => y.size ≤ 140737488351232) (fun a7_e hx => by
    have a7_q := a7_h a7_e hx
    obtain ⟨a7_e', rfl, a7_ew⟩ := HasT.str_inv a7_q tyK_9
    exact ⟨a7_e', rfl, a7_ew⟩)
  obtain ⟨a8_0, rfl, a8_h, a8_l, a8_w⟩ := HasT.sl_inv t8 tyK_36
  obtain ⟨a8_', rfl, a8_a⟩ := map_of (f := GWay.enc) (p := fun (y : GWay) => y.wf) (fun a8_e hx => by
    have a8_q := a8_h a8_e hx
    obtain ⟨a8_e', rfl, a8_ew⟩ := GWay.of a8_q
    exact ⟨a8_e', rfl, a8_ew⟩)
  exact ⟨⟨a0_', a1_', a2_', a3_', a4_', a5_', a6_', a7_', a8_'⟩, rfl, ⟨a0_w, a1_w, a2_w, a3_w, (by simpa using a5_w), a5_a, (by simpa using a6_w), a6_a, (by simpa using a7_w), a7_a, (by simpa using a8_w), a8_a⟩⟩
structure GSlot where
  Kind : Int
  Words : (List ByteArray)
  deriving DecidableEq
def GSlot.enc (x : GSlot) : List D := [D.v (.int .i64 x.Kind), D.sl (encS x.Words)]
@[simp] theorem GSlot.enc_length (x : GSlot) : x.enc.length = 2 := rfl
@[simp] theorem GSlot.enc_0 (x : GSlot) : x.enc[0]? = some (D.v (.int .i64 x.Kind)) := rfl
@[simp] theorem GSlot.encg_0 (x : GSlot) (h : 0 < x.enc.length) : x.enc[0] = D.v (.int .i64 x.Kind) := rfl
@[simp] theorem GSlot.enc_1 (x : GSlot) : x.enc[1]? = some (D.sl (encS x.Words)) := rfl
@[simp] theorem GSlot.encg_1 (x : GSlot) (h : 1 < x.enc.length) : x.enc[1] = D.sl (encS x.Words) := rfl
@[simp] theorem GSlot.fzV (L : Heap) (x : GSlot) : V.fzs L (x.enc.map V.d) = x.enc.map V.d := by simp [GSlot.enc, V.fzs, V.fz]
def GSlot.zero : GSlot := ⟨0, []⟩
theorem GSlot.zero_enc : GSlot.zero.enc = [D.v (.int .i64 0), D.sl []] := rfl
@[simp] theorem GSlot.getZ (o : Option GSlot) : (o.map GSlot.enc).getD [D.v (.int .i64 0), D.sl []] = (o.getD GSlot.zero).enc := by cases o <;> rfl
@[simp] theorem GSlot.getV (o : Option GSlot) : (o.map (fun x => x.enc.map V.d)).getD [V.d (D.v (.int .i64 0)), V.d (D.sl [])] = ((o.getD GSlot.zero).enc).map V.d := by cases o <;> rfl
theorem GSlot.cellAt (l : List GSlot) (i j : Nat) (z : D) (h : GSlot.zero.enc[j]? = some z) : cellAt (dd (l.map GSlot.enc)) i j [V.d z] = V.d (((l[i]?.getD GSlot.zero).enc[j]?).getD default) := by
  unfold Go.Ab.cellAt
  rw [dd_get, List.getElem?_map]
  cases hl : l[i]? with
  | none => simp [h]
  | some a =>
    have hj := (List.getElem?_eq_some_iff.1 h).1
    have hj' : j < a.enc.length := by rw [GSlot.enc_length] at hj ⊢; exact hj
    simp only [Option.map_some, List.getElem?_map, List.getElem?_eq_getElem hj', Option.getD_some]
@[simp] theorem GSlot.cellAt_0 (l : List GSlot) (i : Nat) : Go.Ab.cellAt (dd (l.map GSlot.enc)) i 0 [V.d (D.v (.int .i64 0))] = V.d (D.v (.int .i64 (l[i]?.getD GSlot.zero).Kind)) := (GSlot.cellAt l i 0 (D.v (.int .i64 0)) rfl).trans (by simp)
@[simp] theorem GSlot.cellAt_1 (l : List GSlot) (i : Nat) : Go.Ab.cellAt (dd (l.map GSlot.enc)) i 1 [V.d (D.sl [])] = V.d (D.sl (encS (l[i]?.getD GSlot.zero).Words)) := (GSlot.cellAt l i 1 (D.sl []) rfl).trans (by simp)
@[simp] theorem GSlot.aggAt (l : List GSlot) (i : Nat) : Go.Ab.aggAt (dd (l.map GSlot.enc)) i 0 2 [V.d (D.v (.int .i64 0)), V.d (D.sl [])] = (l[i]?.getD GSlot.zero).enc.map V.d := by
  unfold Go.Ab.aggAt
  rw [dd_get, List.getElem?_map]
  cases l[i]? with
  | none => rfl
  | some x => simp; cases x; rfl
@[simp] theorem GSlot.dropAll (x : GSlot) : List.drop 2 x.enc = [] := rfl
@[simp] theorem GSlot.dropAllv (x : GSlot) : List.drop 2 (x.enc.map V.d) = [] := rfl
@[simp] theorem GSlot.enc_all (x : GSlot) : x.enc.take 2 = x.enc := rfl
@[simp] theorem GSlot.enc_allv (x : GSlot) : List.take 2 (x.enc.map V.d) = x.enc.map V.d := rfl
def GSlot.wf (x : GSlot) : Prop := inR .i64 x.Kind ∧ x.Words.length * 16 ≤ 140737488351232 ∧ (∀ y0 : ByteArray, y0 ∈ x.Words → y0.size ≤ 140737488351232)
theorem GSlot.wf_Kind {x : GSlot} (h : x.wf) : inR .i64 x.Kind := h.1
theorem GSlot.wl_Words {x : GSlot} (h : x.wf) : x.Words.length * 16 ≤ 140737488351232 := h.2.1
theorem GSlot.wf_Words {x : GSlot} (h : x.wf) : (∀ y0 : ByteArray, y0 ∈ x.Words → y0.size ≤ 140737488351232) := h.2.2
theorem tyK_135 : tyK Go.Proofs.Try.prog 135 = .st [3, 22] := by kernel_rfl
theorem GSlot.of {ys : List D} (h : HasT Go.Proofs.Try.prog 135 ys) : ∃ x : GSlot, ys = x.enc ∧ x.wf := by
  have h' := HasT.st_inv h tyK_135
  obtain ⟨a0_, r0, hr0, t0, h0⟩ := h'
  obtain ⟨a1_, r1, hr1, t1, h1⟩ := h0
  simp only [HasTs] at h1
  subst h1
  subst hr1
  subst hr0
  obtain ⟨a0_', rfl, a0_w⟩ := HasT.int_inv t0 tyK_3
  obtain ⟨a1_0, rfl, a1_h, a1_l, a1_w⟩ := HasT.sl_inv t1 tyK_22
  obtain ⟨a1_', rfl, a1_a⟩ := map_of (f := (fun y => [D.v (.string y)])) (p := fun (y : ByteArray) => y.size ≤ 140737488351232) (fun a1_e hx => by
    have a1_q := a1_h a1_e hx
    obtain ⟨a1_e', rfl, a1_ew⟩ := HasT.str_inv a1_q tyK_9
    exact ⟨a1_e', rfl, a1_ew⟩)
  exact ⟨⟨a0_', a1_'⟩, rfl, ⟨a0_w, (by simpa using a1_w), a1_a⟩⟩
structure GAct where
  Meta : Bool
  Lines : (List (List GSlot))
  deriving DecidableEq
def GAct.enc (x : GAct) : List D := [D.v (.bool x.Meta), D.sl (encSl (List.map GSlot.enc) x.Lines)]
@[simp] theorem GAct.enc_length (x : GAct) : x.enc.length = 2 := rfl
@[simp] theorem GAct.enc_0 (x : GAct) : x.enc[0]? = some (D.v (.bool x.Meta)) := rfl
@[simp] theorem GAct.encg_0 (x : GAct) (h : 0 < x.enc.length) : x.enc[0] = D.v (.bool x.Meta) := rfl
@[simp] theorem GAct.enc_1 (x : GAct) : x.enc[1]? = some (D.sl (encSl (List.map GSlot.enc) x.Lines)) := rfl
@[simp] theorem GAct.encg_1 (x : GAct) (h : 1 < x.enc.length) : x.enc[1] = D.sl (encSl (List.map GSlot.enc) x.Lines) := rfl
@[simp] theorem GAct.fzV (L : Heap) (x : GAct) : V.fzs L (x.enc.map V.d) = x.enc.map V.d := by simp [GAct.enc, V.fzs, V.fz]
def GAct.zero : GAct := ⟨false, []⟩
theorem GAct.zero_enc : GAct.zero.enc = [D.v (.bool false), D.sl []] := rfl
@[simp] theorem GAct.getZ (o : Option GAct) : (o.map GAct.enc).getD [D.v (.bool false), D.sl []] = (o.getD GAct.zero).enc := by cases o <;> rfl
@[simp] theorem GAct.getV (o : Option GAct) : (o.map (fun x => x.enc.map V.d)).getD [V.d (D.v (.bool false)), V.d (D.sl [])] = ((o.getD GAct.zero).enc).map V.d := by cases o <;> rfl
theorem GAct.cellAt (l : List GAct) (i j : Nat) (z : D) (h : GAct.zero.enc[j]? = some z) : cellAt (dd (l.map GAct.enc)) i j [V.d z] = V.d (((l[i]?.getD GAct.zero).enc[j]?).getD default) := by
  unfold Go.Ab.cellAt
  rw [dd_get, List.getElem?_map]
  cases hl : l[i]? with
  | none => simp [h]
  | some a =>
    have hj := (List.getElem?_eq_some_iff.1 h).1
    have hj' : j < a.enc.length := by rw [GAct.enc_length] at hj ⊢; exact hj
    simp only [Option.map_some, List.getElem?_map, List.getElem?_eq_getElem hj', Option.getD_some]
@[simp] theorem GAct.cellAt_0 (l : List GAct) (i : Nat) : Go.Ab.cellAt (dd (l.map GAct.enc)) i 0 [V.d (D.v (.bool false))] = V.d (D.v (.bool (l[i]?.getD GAct.zero).Meta)) := (GAct.cellAt l i 0 (D.v (.bool false)) rfl).trans (by simp)
@[simp] theorem GAct.cellAt_1 (l : List GAct) (i : Nat) : Go.Ab.cellAt (dd (l.map GAct.enc)) i 1 [V.d (D.sl [])] = V.d (D.sl (encSl (List.map GSlot.enc) (l[i]?.getD GAct.zero).Lines)) := (GAct.cellAt l i 1 (D.sl []) rfl).trans (by simp)
@[simp] theorem GAct.aggAt (l : List GAct) (i : Nat) : Go.Ab.aggAt (dd (l.map GAct.enc)) i 0 2 [V.d (D.v (.bool false)), V.d (D.sl [])] = (l[i]?.getD GAct.zero).enc.map V.d := by
  unfold Go.Ab.aggAt
  rw [dd_get, List.getElem?_map]
  cases l[i]? with
  | none => rfl
  | some x => simp; cases x; rfl
@[simp] theorem GAct.dropAll (x : GAct) : List.drop 2 x.enc = [] := rfl
@[simp] theorem GAct.dropAllv (x : GAct) : List.drop 2 (x.enc.map V.d) = [] := rfl
@[simp] theorem GAct.enc_all (x : GAct) : x.enc.take 2 = x.enc := rfl
@[simp] theorem GAct.enc_allv (x : GAct) : List.take 2 (x.enc.map V.d) = x.enc.map V.d := rfl
def GAct.wf (x : GAct) : Prop := x.Lines.length * 24 ≤ 140737488351232 ∧ (∀ y0 : (List GSlot), y0 ∈ x.Lines → y0.length * 32 ≤ 140737488351232 ∧ (∀ y1 : GSlot, y1 ∈ y0 → y1.wf))
theorem GAct.wl_Lines {x : GAct} (h : x.wf) : x.Lines.length * 24 ≤ 140737488351232 := h.1
theorem GAct.wf_Lines {x : GAct} (h : x.wf) : (∀ y0 : (List GSlot), y0 ∈ x.Lines → y0.length * 32 ≤ 140737488351232 ∧ (∀ y1 : GSlot, y1 ∈ y0 → y1.wf)) := h.2
theorem tyK_115 : tyK Go.Proofs.Try.prog 115 = .st [4, 113] := by kernel_rfl
theorem tyK_113 : tyK Go.Proofs.Try.prog 113 = .sl 117 24 := by kernel_rfl
theorem tyK_117 : tyK Go.Proofs.Try.prog 117 = .sl 135 32 := by kernel_rfl
theorem GAct.of {ys : List D} (h : HasT Go.Proofs.Try.prog 115 ys) : ∃ x : GAct, ys = x.enc ∧ x.wf := by
  have h' := HasT.st_inv h tyK_115
  obtain ⟨a0_, r0, hr0, t0, h0⟩ := h'
  obtain ⟨a1_, r1, hr1, t1, h1⟩ := h0
  simp only [HasTs] at h1
  subst h1
  subst hr1
  subst hr0
  obtain ⟨a0_', rfl⟩ := HasT.bool_inv t0 tyK_4
  obtain ⟨a1_0, rfl, a1_h, a1_l, a1_w⟩ := HasT.sl_inv t1 tyK_113
  obtain ⟨a1_', rfl, a1_a⟩ := map_of (f := (fun y => [D.sl (y.map GSlot.enc)])) (p := fun (y : (List GSlot)) => y.length * 32 ≤ 140737488351232 ∧ (∀ y1 : GSlot, y1 ∈ y → y1.wf)) (fun a1_e hx => by
    have a1_q := a1_h a1_e hx
    obtain ⟨a1_e0, rfl, a1_eh, a1_el, a1_ew⟩ := HasT.sl_inv a1_q tyK_117
    obtain ⟨a1_e', rfl, a1_ea⟩ := map_of (f := GSlot.enc) (p := fun (y : GSlot) => y.wf) (fun a1_ee hx => by
      have a1_eq := a1_eh a1_ee hx
      obtain ⟨a1_ee', rfl, a1_eew⟩ := GSlot.of a1_eq
      exact ⟨a1_ee', rfl, a1_eew⟩)
    exact ⟨a1_e', rfl, ⟨(by simpa using a1_ew), a1_ea⟩⟩)
  exact ⟨⟨a0_', a1_'⟩, rfl, ⟨(by simpa using a1_w), a1_a⟩⟩
structure GDeed where
  Verb : Int
  Phase : Int
  Noun : Int
  Second : Int
  When : Int
  Body : Int
  deriving DecidableEq
def GDeed.enc (x : GDeed) : List D := [D.v (.int .i64 x.Verb), D.v (.int .i64 x.Phase), D.v (.int .i64 x.Noun), D.v (.int .i64 x.Second), D.v (.int .i64 x.When), D.v (.int .i64 x.Body)]
@[simp] theorem GDeed.enc_length (x : GDeed) : x.enc.length = 6 := rfl
@[simp] theorem GDeed.enc_0 (x : GDeed) : x.enc[0]? = some (D.v (.int .i64 x.Verb)) := rfl
@[simp] theorem GDeed.encg_0 (x : GDeed) (h : 0 < x.enc.length) : x.enc[0] = D.v (.int .i64 x.Verb) := rfl
@[simp] theorem GDeed.enc_1 (x : GDeed) : x.enc[1]? = some (D.v (.int .i64 x.Phase)) := rfl
@[simp] theorem GDeed.encg_1 (x : GDeed) (h : 1 < x.enc.length) : x.enc[1] = D.v (.int .i64 x.Phase) := rfl
@[simp] theorem GDeed.enc_2 (x : GDeed) : x.enc[2]? = some (D.v (.int .i64 x.Noun)) := rfl
@[simp] theorem GDeed.encg_2 (x : GDeed) (h : 2 < x.enc.length) : x.enc[2] = D.v (.int .i64 x.Noun) := rfl
@[simp] theorem GDeed.enc_3 (x : GDeed) : x.enc[3]? = some (D.v (.int .i64 x.Second)) := rfl
@[simp] theorem GDeed.encg_3 (x : GDeed) (h : 3 < x.enc.length) : x.enc[3] = D.v (.int .i64 x.Second) := rfl
@[simp] theorem GDeed.enc_4 (x : GDeed) : x.enc[4]? = some (D.v (.int .i64 x.When)) := rfl
@[simp] theorem GDeed.encg_4 (x : GDeed) (h : 4 < x.enc.length) : x.enc[4] = D.v (.int .i64 x.When) := rfl
@[simp] theorem GDeed.enc_5 (x : GDeed) : x.enc[5]? = some (D.v (.int .i64 x.Body)) := rfl
@[simp] theorem GDeed.encg_5 (x : GDeed) (h : 5 < x.enc.length) : x.enc[5] = D.v (.int .i64 x.Body) := rfl
@[simp] theorem GDeed.fzV (L : Heap) (x : GDeed) : V.fzs L (x.enc.map V.d) = x.enc.map V.d := by simp [GDeed.enc, V.fzs, V.fz]
@[simp] theorem GDeed.eqV (x y : GDeed) : eqVs (x.enc.map V.d) (y.enc.map V.d) = some (decide (x = y)) := by
  rcases x with ⟨a_0, a_1, a_2, a_3, a_4, a_5⟩
  rcases y with ⟨b_0, b_1, b_2, b_3, b_4, b_5⟩
  simp only [GDeed.enc, List.map, eqVs, vals, eqVals, eqV1, if_true, Option.some.injEq, bytes_beq]
  rw [Bool.eq_iff_iff]
  simp [and_assoc]
@[simp] theorem GDeed.fitV (x : GDeed) : fitVs [.i .i64, .i .i64, .i .i64, .i .i64, .i .i64, .i .i64] (x.enc.map V.d) = true := by
  simp [GDeed.enc, fitVs, vals, fits, fit1]
def GDeed.zero : GDeed := ⟨0, 0, 0, 0, 0, 0⟩
theorem GDeed.zero_enc : GDeed.zero.enc = [D.v (.int .i64 0), D.v (.int .i64 0), D.v (.int .i64 0), D.v (.int .i64 0), D.v (.int .i64 0), D.v (.int .i64 0)] := rfl
@[simp] theorem GDeed.getZ (o : Option GDeed) : (o.map GDeed.enc).getD [D.v (.int .i64 0), D.v (.int .i64 0), D.v (.int .i64 0), D.v (.int .i64 0), D.v (.int .i64 0), D.v (.int .i64 0)] = (o.getD GDeed.zero).enc := by cases o <;> rfl
@[simp] theorem GDeed.getV (o : Option GDeed) : (o.map (fun x => x.enc.map V.d)).getD [V.d (D.v (.int .i64 0)), V.d (D.v (.int .i64 0)), V.d (D.v (.int .i64 0)), V.d (D.v (.int .i64 0)), V.d (D.v (.int .i64 0)), V.d (D.v (.int .i64 0))] = ((o.getD GDeed.zero).enc).map V.d := by cases o <;> rfl
theorem GDeed.cellAt (l : List GDeed) (i j : Nat) (z : D) (h : GDeed.zero.enc[j]? = some z) : cellAt (dd (l.map GDeed.enc)) i j [V.d z] = V.d (((l[i]?.getD GDeed.zero).enc[j]?).getD default) := by
  unfold Go.Ab.cellAt
  rw [dd_get, List.getElem?_map]
  cases hl : l[i]? with
  | none => simp [h]
  | some a =>
    have hj := (List.getElem?_eq_some_iff.1 h).1
    have hj' : j < a.enc.length := by rw [GDeed.enc_length] at hj ⊢; exact hj
    simp only [Option.map_some, List.getElem?_map, List.getElem?_eq_getElem hj', Option.getD_some]
@[simp] theorem GDeed.cellAt_0 (l : List GDeed) (i : Nat) : Go.Ab.cellAt (dd (l.map GDeed.enc)) i 0 [V.d (D.v (.int .i64 0))] = V.d (D.v (.int .i64 (l[i]?.getD GDeed.zero).Verb)) := (GDeed.cellAt l i 0 (D.v (.int .i64 0)) rfl).trans (by simp)
@[simp] theorem GDeed.cellAt_1 (l : List GDeed) (i : Nat) : Go.Ab.cellAt (dd (l.map GDeed.enc)) i 1 [V.d (D.v (.int .i64 0))] = V.d (D.v (.int .i64 (l[i]?.getD GDeed.zero).Phase)) := (GDeed.cellAt l i 1 (D.v (.int .i64 0)) rfl).trans (by simp)
@[simp] theorem GDeed.cellAt_2 (l : List GDeed) (i : Nat) : Go.Ab.cellAt (dd (l.map GDeed.enc)) i 2 [V.d (D.v (.int .i64 0))] = V.d (D.v (.int .i64 (l[i]?.getD GDeed.zero).Noun)) := (GDeed.cellAt l i 2 (D.v (.int .i64 0)) rfl).trans (by simp)
@[simp] theorem GDeed.cellAt_3 (l : List GDeed) (i : Nat) : Go.Ab.cellAt (dd (l.map GDeed.enc)) i 3 [V.d (D.v (.int .i64 0))] = V.d (D.v (.int .i64 (l[i]?.getD GDeed.zero).Second)) := (GDeed.cellAt l i 3 (D.v (.int .i64 0)) rfl).trans (by simp)
@[simp] theorem GDeed.cellAt_4 (l : List GDeed) (i : Nat) : Go.Ab.cellAt (dd (l.map GDeed.enc)) i 4 [V.d (D.v (.int .i64 0))] = V.d (D.v (.int .i64 (l[i]?.getD GDeed.zero).When)) := (GDeed.cellAt l i 4 (D.v (.int .i64 0)) rfl).trans (by simp)
@[simp] theorem GDeed.cellAt_5 (l : List GDeed) (i : Nat) : Go.Ab.cellAt (dd (l.map GDeed.enc)) i 5 [V.d (D.v (.int .i64 0))] = V.d (D.v (.int .i64 (l[i]?.getD GDeed.zero).Body)) := (GDeed.cellAt l i 5 (D.v (.int .i64 0)) rfl).trans (by simp)
@[simp] theorem GDeed.aggAt (l : List GDeed) (i : Nat) : Go.Ab.aggAt (dd (l.map GDeed.enc)) i 0 6 [V.d (D.v (.int .i64 0)), V.d (D.v (.int .i64 0)), V.d (D.v (.int .i64 0)), V.d (D.v (.int .i64 0)), V.d (D.v (.int .i64 0)), V.d (D.v (.int .i64 0))] = (l[i]?.getD GDeed.zero).enc.map V.d := by
  unfold Go.Ab.aggAt
  rw [dd_get, List.getElem?_map]
  cases l[i]? with
  | none => rfl
  | some x => simp; cases x; rfl
@[simp] theorem GDeed.dropAll (x : GDeed) : List.drop 6 x.enc = [] := rfl
@[simp] theorem GDeed.dropAllv (x : GDeed) : List.drop 6 (x.enc.map V.d) = [] := rfl
@[simp] theorem GDeed.enc_all (x : GDeed) : x.enc.take 6 = x.enc := rfl
@[simp] theorem GDeed.enc_allv (x : GDeed) : List.take 6 (x.enc.map V.d) = x.enc.map V.d := rfl
def GDeed.wf (x : GDeed) : Prop := inR .i64 x.Verb ∧ inR .i64 x.Phase ∧ inR .i64 x.Noun ∧ inR .i64 x.Second ∧ inR .i64 x.When ∧ inR .i64 x.Body
theorem GDeed.wf_Verb {x : GDeed} (h : x.wf) : inR .i64 x.Verb := h.1
theorem GDeed.wf_Phase {x : GDeed} (h : x.wf) : inR .i64 x.Phase := h.2.1
theorem GDeed.wf_Noun {x : GDeed} (h : x.wf) : inR .i64 x.Noun := h.2.2.1
theorem GDeed.wf_Second {x : GDeed} (h : x.wf) : inR .i64 x.Second := h.2.2.2.1
theorem GDeed.wf_When {x : GDeed} (h : x.wf) : inR .i64 x.When := h.2.2.2.2.1
theorem GDeed.wf_Body {x : GDeed} (h : x.wf) : inR .i64 x.Body := h.2.2.2.2.2
theorem tyK_119 : tyK Go.Proofs.Try.prog 119 = .st [3, 3, 3, 3, 3, 3] := by kernel_rfl
theorem GDeed.of {ys : List D} (h : HasT Go.Proofs.Try.prog 119 ys) : ∃ x : GDeed, ys = x.enc ∧ x.wf := by
  have h' := HasT.st_inv h tyK_119
  obtain ⟨a0_, r0, hr0, t0, h0⟩ := h'
  obtain ⟨a1_, r1, hr1, t1, h1⟩ := h0
  obtain ⟨a2_, r2, hr2, t2, h2⟩ := h1
  obtain ⟨a3_, r3, hr3, t3, h3⟩ := h2
  obtain ⟨a4_, r4, hr4, t4, h4⟩ := h3
  obtain ⟨a5_, r5, hr5, t5, h5⟩ := h4
  simp only [HasTs] at h5
  subst h5
  subst hr5
  subst hr4
  subst hr3
  subst hr2
  subst hr1
  subst hr0
  obtain ⟨a0_', rfl, a0_w⟩ := HasT.int_inv t0 tyK_3
  obtain ⟨a1_', rfl, a1_w⟩ := HasT.int_inv t1 tyK_3
  obtain ⟨a2_', rfl, a2_w⟩ := HasT.int_inv t2 tyK_3
  obtain ⟨a3_', rfl, a3_w⟩ := HasT.int_inv t3 tyK_3
  obtain ⟨a4_', rfl, a4_w⟩ := HasT.int_inv t4 tyK_3
  obtain ⟨a5_', rfl, a5_w⟩ := HasT.int_inv t5 tyK_3
  exact ⟨⟨a0_', a1_', a2_', a3_', a4_', a5_'⟩, rfl, ⟨a0_w, a1_w, a2_w, a3_w, a4_w, a5_w⟩⟩
structure GTables where
  Title : Int
  By : Int
  Release : Int
  Max : Int
  Texts : (List ByteArray)
  Flags : Int
  Props : (List Int)
  Globals : (List Int)
  Things : (List GThing)
  Acts : (List GAct)
  Deeds : (List GDeed)
  Funcs : (List Int)
  Daemons : (List Int)
  Params : (List Int)
  Locals : (List Int)
  deriving DecidableEq
def GTables.enc (x : GTables) : List D := [D.v (.int .i64 x.Title), D.v (.int .i64 x.By), D.v (.int .i64 x.Release), D.v (.int .i64 x.Max), D.sl (encS x.Texts), D.v (.int .i64 x.Flags), D.sl (encI x.Props), D.sl (encI x.Globals), D.sl (x.Things.map GThing.enc), D.sl (x.Acts.map GAct.enc), D.sl (x.Deeds.map GDeed.enc), D.sl (encI x.Funcs), D.sl (encI x.Daemons), D.sl (encI x.Params), D.sl (encI x.Locals)]
@[simp] theorem GTables.enc_length (x : GTables) : x.enc.length = 15 := rfl
@[simp] theorem GTables.enc_0 (x : GTables) : x.enc[0]? = some (D.v (.int .i64 x.Title)) := rfl
@[simp] theorem GTables.encg_0 (x : GTables) (h : 0 < x.enc.length) : x.enc[0] = D.v (.int .i64 x.Title) := rfl
@[simp] theorem GTables.enc_1 (x : GTables) : x.enc[1]? = some (D.v (.int .i64 x.By)) := rfl
@[simp] theorem GTables.encg_1 (x : GTables) (h : 1 < x.enc.length) : x.enc[1] = D.v (.int .i64 x.By) := rfl
@[simp] theorem GTables.enc_2 (x : GTables) : x.enc[2]? = some (D.v (.int .i64 x.Release)) := rfl
@[simp] theorem GTables.encg_2 (x : GTables) (h : 2 < x.enc.length) : x.enc[2] = D.v (.int .i64 x.Release) := rfl
@[simp] theorem GTables.enc_3 (x : GTables) : x.enc[3]? = some (D.v (.int .i64 x.Max)) := rfl
@[simp] theorem GTables.encg_3 (x : GTables) (h : 3 < x.enc.length) : x.enc[3] = D.v (.int .i64 x.Max) := rfl
@[simp] theorem GTables.enc_4 (x : GTables) : x.enc[4]? = some (D.sl (encS x.Texts)) := rfl
@[simp] theorem GTables.encg_4 (x : GTables) (h : 4 < x.enc.length) : x.enc[4] = D.sl (encS x.Texts) := rfl
@[simp] theorem GTables.enc_5 (x : GTables) : x.enc[5]? = some (D.v (.int .i64 x.Flags)) := rfl
@[simp] theorem GTables.encg_5 (x : GTables) (h : 5 < x.enc.length) : x.enc[5] = D.v (.int .i64 x.Flags) := rfl
@[simp] theorem GTables.enc_6 (x : GTables) : x.enc[6]? = some (D.sl (encI x.Props)) := rfl
@[simp] theorem GTables.encg_6 (x : GTables) (h : 6 < x.enc.length) : x.enc[6] = D.sl (encI x.Props) := rfl
@[simp] theorem GTables.enc_7 (x : GTables) : x.enc[7]? = some (D.sl (encI x.Globals)) := rfl
@[simp] theorem GTables.encg_7 (x : GTables) (h : 7 < x.enc.length) : x.enc[7] = D.sl (encI x.Globals) := rfl
@[simp] theorem GTables.enc_8 (x : GTables) : x.enc[8]? = some (D.sl (x.Things.map GThing.enc)) := rfl
@[simp] theorem GTables.encg_8 (x : GTables) (h : 8 < x.enc.length) : x.enc[8] = D.sl (x.Things.map GThing.enc) := rfl
@[simp] theorem GTables.enc_9 (x : GTables) : x.enc[9]? = some (D.sl (x.Acts.map GAct.enc)) := rfl
@[simp] theorem GTables.encg_9 (x : GTables) (h : 9 < x.enc.length) : x.enc[9] = D.sl (x.Acts.map GAct.enc) := rfl
@[simp] theorem GTables.enc_10 (x : GTables) : x.enc[10]? = some (D.sl (x.Deeds.map GDeed.enc)) := rfl
@[simp] theorem GTables.encg_10 (x : GTables) (h : 10 < x.enc.length) : x.enc[10] = D.sl (x.Deeds.map GDeed.enc) := rfl
@[simp] theorem GTables.enc_11 (x : GTables) : x.enc[11]? = some (D.sl (encI x.Funcs)) := rfl
@[simp] theorem GTables.encg_11 (x : GTables) (h : 11 < x.enc.length) : x.enc[11] = D.sl (encI x.Funcs) := rfl
@[simp] theorem GTables.enc_12 (x : GTables) : x.enc[12]? = some (D.sl (encI x.Daemons)) := rfl
@[simp] theorem GTables.encg_12 (x : GTables) (h : 12 < x.enc.length) : x.enc[12] = D.sl (encI x.Daemons) := rfl
@[simp] theorem GTables.enc_13 (x : GTables) : x.enc[13]? = some (D.sl (encI x.Params)) := rfl
@[simp] theorem GTables.encg_13 (x : GTables) (h : 13 < x.enc.length) : x.enc[13] = D.sl (encI x.Params) := rfl
@[simp] theorem GTables.enc_14 (x : GTables) : x.enc[14]? = some (D.sl (encI x.Locals)) := rfl
@[simp] theorem GTables.encg_14 (x : GTables) (h : 14 < x.enc.length) : x.enc[14] = D.sl (encI x.Locals) := rfl
@[simp] theorem GTables.fzV (L : Heap) (x : GTables) : V.fzs L (x.enc.map V.d) = x.enc.map V.d := by simp [GTables.enc, V.fzs, V.fz]
def GTables.zero : GTables := ⟨0, 0, 0, 0, [], 0, [], [], [], [], [], [], [], [], []⟩
theorem GTables.zero_enc : GTables.zero.enc = [D.v (.int .i64 0), D.v (.int .i64 0), D.v (.int .i64 0), D.v (.int .i64 0), D.sl [], D.v (.int .i64 0), D.sl [], D.sl [], D.sl [], D.sl [], D.sl [], D.sl [], D.sl [], D.sl [], D.sl []] := rfl
@[simp] theorem GTables.getZ (o : Option GTables) : (o.map GTables.enc).getD [D.v (.int .i64 0), D.v (.int .i64 0), D.v (.int .i64 0), D.v (.int .i64 0), D.sl [], D.v (.int .i64 0), D.sl [], D.sl [], D.sl [], D.sl [], D.sl [], D.sl [], D.sl [], D.sl [], D.sl []] = (o.getD GTables.zero).enc := by cases o <;> rfl
@[simp] theorem GTables.getV (o : Option GTables) : (o.map (fun x => x.enc.map V.d)).getD [V.d (D.v (.int .i64 0)), V.d (D.v (.int .i64 0)), V.d (D.v (.int .i64 0)), V.d (D.v (.int .i64 0)), V.d (D.sl []), V.d (D.v (.int .i64 0)), V.d (D.sl []), V.d (D.sl []), V.d (D.sl []), V.d (D.sl []), V.d (D.sl []), V.d (D.sl []), V.d (D.sl []), V.d (D.sl []), V.d (D.sl [])] = ((o.getD GTables.zero).enc).map V.d := by cases o <;> rfl
theorem GTables.cellAt (l : List GTables) (i j : Nat) (z : D) (h : GTables.zero.enc[j]? = some z) : cellAt (dd (l.map GTables.enc)) i j [V.d z] = V.d (((l[i]?.getD GTables.zero).enc[j]?).getD default) := by
  unfold Go.Ab.cellAt
  rw [dd_get, List.getElem?_map]
  cases hl : l[i]? with
  | none => simp [h]
  | some a =>
    have hj := (List.getElem?_eq_some_iff.1 h).1
    have hj' : j < a.enc.length := by rw [GTables.enc_length] at hj ⊢; exact hj
    simp only [Option.map_some, List.getElem?_map, List.getElem?_eq_getElem hj', Option.getD_some]
@[simp] theorem GTables.cellAt_0 (l : List GTables) (i : Nat) : Go.Ab.cellAt (dd (l.map GTables.enc)) i 0 [V.d (D.v (.int .i64 0))] = V.d (D.v (.int .i64 (l[i]?.getD GTables.zero).Title)) := (GTables.cellAt l i 0 (D.v (.int .i64 0)) rfl).trans (by simp)
@[simp] theorem GTables.cellAt_1 (l : List GTables) (i : Nat) : Go.Ab.cellAt (dd (l.map GTables.enc)) i 1 [V.d (D.v (.int .i64 0))] = V.d (D.v (.int .i64 (l[i]?.getD GTables.zero).By)) := (GTables.cellAt l i 1 (D.v (.int .i64 0)) rfl).trans (by simp)
@[simp] theorem GTables.cellAt_2 (l : List GTables) (i : Nat) : Go.Ab.cellAt (dd (l.map GTables.enc)) i 2 [V.d (D.v (.int .i64 0))] = V.d (D.v (.int .i64 (l[i]?.getD GTables.zero).Release)) := (GTables.cellAt l i 2 (D.v (.int .i64 0)) rfl).trans (by simp)
@[simp] theorem GTables.cellAt_3 (l : List GTables) (i : Nat) : Go.Ab.cellAt (dd (l.map GTables.enc)) i 3 [V.d (D.v (.int .i64 0))] = V.d (D.v (.int .i64 (l[i]?.getD GTables.zero).Max)) := (GTables.cellAt l i 3 (D.v (.int .i64 0)) rfl).trans (by simp)
@[simp] theorem GTables.cellAt_4 (l : List GTables) (i : Nat) : Go.Ab.cellAt (dd (l.map GTables.enc)) i 4 [V.d (D.sl [])] = V.d (D.sl (encS (l[i]?.getD GTables.zero).Texts)) := (GTables.cellAt l i 4 (D.sl []) rfl).trans (by simp)
@[simp] theorem GTables.cellAt_5 (l : List GTables) (i : Nat) : Go.Ab.cellAt (dd (l.map GTables.enc)) i 5 [V.d (D.v (.int .i64 0))] = V.d (D.v (.int .i64 (l[i]?.getD GTables.zero).Flags)) := (GTables.cellAt l i 5 (D.v (.int .i64 0)) rfl).trans (by simp)
@[simp] theorem GTables.cellAt_6 (l : List GTables) (i : Nat) : Go.Ab.cellAt (dd (l.map GTables.enc)) i 6 [V.d (D.sl [])] = V.d (D.sl (encI (l[i]?.getD GTables.zero).Props)) := (GTables.cellAt l i 6 (D.sl []) rfl).trans (by simp)
@[simp] theorem GTables.cellAt_7 (l : List GTables) (i : Nat) : Go.Ab.cellAt (dd (l.map GTables.enc)) i 7 [V.d (D.sl [])] = V.d (D.sl (encI (l[i]?.getD GTables.zero).Globals)) := (GTables.cellAt l i 7 (D.sl []) rfl).trans (by simp)
@[simp] theorem GTables.cellAt_8 (l : List GTables) (i : Nat) : Go.Ab.cellAt (dd (l.map GTables.enc)) i 8 [V.d (D.sl [])] = V.d (D.sl ((l[i]?.getD GTables.zero).Things.map GThing.enc)) := (GTables.cellAt l i 8 (D.sl []) rfl).trans (by simp)
@[simp] theorem GTables.cellAt_9 (l : List GTables) (i : Nat) : Go.Ab.cellAt (dd (l.map GTables.enc)) i 9 [V.d (D.sl [])] = V.d (D.sl ((l[i]?.getD GTables.zero).Acts.map GAct.enc)) := (GTables.cellAt l i 9 (D.sl []) rfl).trans (by simp)
@[simp] theorem GTables.cellAt_10 (l : List GTables) (i : Nat) : Go.Ab.cellAt (dd (l.map GTables.enc)) i 10 [V.d (D.sl [])] = V.d (D.sl ((l[i]?.getD GTables.zero).Deeds.map GDeed.enc)) := (GTables.cellAt l i 10 (D.sl []) rfl).trans (by simp)
@[simp] theorem GTables.cellAt_11 (l : List GTables) (i : Nat) : Go.Ab.cellAt (dd (l.map GTables.enc)) i 11 [V.d (D.sl [])] = V.d (D.sl (encI (l[i]?.getD GTables.zero).Funcs)) := (GTables.cellAt l i 11 (D.sl []) rfl).trans (by simp)
@[simp] theorem GTables.cellAt_12 (l : List GTables) (i : Nat) : Go.Ab.cellAt (dd (l.map GTables.enc)) i 12 [V.d (D.sl [])] = V.d (D.sl (encI (l[i]?.getD GTables.zero).Daemons)) := (GTables.cellAt l i 12 (D.sl []) rfl).trans (by simp)
@[simp] theorem GTables.cellAt_13 (l : List GTables) (i : Nat) : Go.Ab.cellAt (dd (l.map GTables.enc)) i 13 [V.d (D.sl [])] = V.d (D.sl (encI (l[i]?.getD GTables.zero).Params)) := (GTables.cellAt l i 13 (D.sl []) rfl).trans (by simp)
@[simp] theorem GTables.cellAt_14 (l : List GTables) (i : Nat) : Go.Ab.cellAt (dd (l.map GTables.enc)) i 14 [V.d (D.sl [])] = V.d (D.sl (encI (l[i]?.getD GTables.zero).Locals)) := (GTables.cellAt l i 14 (D.sl []) rfl).trans (by simp)
@[simp] theorem GTables.aggAt (l : List GTables) (i : Nat) : Go.Ab.aggAt (dd (l.map GTables.enc)) i 0 15 [V.d (D.v (.int .i64 0)), V.d (D.v (.int .i64 0)), V.d (D.v (.int .i64 0)), V.d (D.v (.int .i64 0)), V.d (D.sl []), V.d (D.v (.int .i64 0)), V.d (D.sl []), V.d (D.sl []), V.d (D.sl []), V.d (D.sl []), V.d (D.sl []), V.d (D.sl []), V.d (D.sl []), V.d (D.sl []), V.d (D.sl [])] = (l[i]?.getD GTables.zero).enc.map V.d := by
  unfold Go.Ab.aggAt
  rw [dd_get, List.getElem?_map]
  cases l[i]? with
  | none => rfl
  | some x => simp; cases x; rfl
@[simp] theorem GTables.dropAll (x : GTables) : List.drop 15 x.enc = [] := rfl
@[simp] theorem GTables.dropAllv (x : GTables) : List.drop 15 (x.enc.map V.d) = [] := rfl
@[simp] theorem GTables.enc_all (x : GTables) : x.enc.take 15 = x.enc := rfl
@[simp] theorem GTables.enc_allv (x : GTables) : List.take 15 (x.enc.map V.d) = x.enc.map V.d := rfl
def GTables.wf (x : GTables) : Prop := inR .i64 x.Title ∧ inR .i64 x.By ∧ inR .i64 x.Release ∧ inR .i64 x.Max ∧ x.Texts.length * 16 ≤ 140737488351232 ∧ (∀ y0 : ByteArray, y0 ∈ x.Texts → y0.size ≤ 140737488351232) ∧ inR .i64 x.Flags ∧ x.Props.length * 8 ≤ 140737488351232 ∧ (∀ y0 : Int, y0 ∈ x.Props → inR .i64 y0) ∧ x.Globals.length * 8 ≤ 140737488351232 ∧ (∀ y0 : Int, y0 ∈ x.Globals → inR .i64 y0) ∧ x.Things.length * 136 ≤ 140737488351232 ∧ (∀ y0 : GThing, y0 ∈ x.Things → y0.wf) ∧ x.Acts.length * 32 ≤ 140737488351232 ∧ (∀ y0 : GAct, y0 ∈ x.Acts → y0.wf) ∧ x.Deeds.length * 48 ≤ 140737488351232 ∧ (∀ y0 : GDeed, y0 ∈ x.Deeds → y0.wf) ∧ x.Funcs.length * 8 ≤ 140737488351232 ∧ (∀ y0 : Int, y0 ∈ x.Funcs → inR .i64 y0) ∧ x.Daemons.length * 8 ≤ 140737488351232 ∧ (∀ y0 : Int, y0 ∈ x.Daemons → inR .i64 y0) ∧ x.Params.length * 8 ≤ 140737488351232 ∧ (∀ y0 : Int, y0 ∈ x.Params → inR .i64 y0) ∧ x.Locals.length * 8 ≤ 140737488351232 ∧ (∀ y0 : Int, y0 ∈ x.Locals → inR .i64 y0)
theorem GTables.wf_Title {x : GTables} (h : x.wf) : inR .i64 x.Title := h.1
theorem GTables.wf_By {x : GTables} (h : x.wf) : inR .i64 x.By := h.2.1
theorem GTables.wf_Release {x : GTables} (h : x.wf) : inR .i64 x.Release := h.2.2.1
theorem GTables.wf_Max {x : GTables} (h : x.wf) : inR .i64 x.Max := h.2.2.2.1
theorem GTables.wl_Texts {x : GTables} (h : x.wf) : x.Texts.length * 16 ≤ 140737488351232 := h.2.2.2.2.1
theorem GTables.wf_Texts {x : GTables} (h : x.wf) : (∀ y0 : ByteArray, y0 ∈ x.Texts → y0.size ≤ 140737488351232) := h.2.2.2.2.2.1
theorem GTables.wf_Flags {x : GTables} (h : x.wf) : inR .i64 x.Flags := h.2.2.2.2.2.2.1
theorem GTables.wl_Props {x : GTables} (h : x.wf) : x.Props.length * 8 ≤ 140737488351232 := h.2.2.2.2.2.2.2.1
theorem GTables.wf_Props {x : GTables} (h : x.wf) : (∀ y0 : Int, y0 ∈ x.Props → inR .i64 y0) := h.2.2.2.2.2.2.2.2.1
theorem GTables.wl_Globals {x : GTables} (h : x.wf) : x.Globals.length * 8 ≤ 140737488351232 := h.2.2.2.2.2.2.2.2.2.1
theorem GTables.wf_Globals {x : GTables} (h : x.wf) : (∀ y0 : Int, y0 ∈ x.Globals → inR .i64 y0) := h.2.2.2.2.2.2.2.2.2.2.1
theorem GTables.wl_Things {x : GTables} (h : x.wf) : x.Things.length * 136 ≤ 140737488351232 := h.2.2.2.2.2.2.2.2.2.2.2.1
theorem GTables.wf_Things {x : GTables} (h : x.wf) : (∀ y0 : GThing, y0 ∈ x.Things → y0.wf) := h.2.2.2.2.2.2.2.2.2.2.2.2.1
theorem GTables.wl_Acts {x : GTables} (h : x.wf) : x.Acts.length * 32 ≤ 140737488351232 := h.2.2.2.2.2.2.2.2.2.2.2.2.2.1
theorem GTables.wf_Acts {x : GTables} (h : x.wf) : (∀ y0 : GAct, y0 ∈ x.Acts → y0.wf) := h.2.2.2.2.2.2.2.2.2.2.2.2.2.2.1
theorem GTables.wl_Deeds {x : GTables} (h : x.wf) : x.Deeds.length * 48 ≤ 140737488351232 := h.2.2.2.2.2.2.2.2.2.2.2.2.2.2.2.1
theorem GTables.wf_Deeds {x : GTables} (h : x.wf) : (∀ y0 : GDeed, y0 ∈ x.Deeds → y0.wf) := h.2.2.2.2.2.2.2.2.2.2.2.2.2.2.2.2.1
theorem GTables.wl_Funcs {x : GTables} (h : x.wf) : x.Funcs.length * 8 ≤ 140737488351232 := h.2.2.2.2.2.2.2.2.2.2.2.2.2.2.2.2.2.1
theorem GTables.wf_Funcs {x : GTables} (h : x.wf) : (∀ y0 : Int, y0 ∈ x.Funcs → inR .i64 y0) := h.2.2.2.2.2.2.2.2.2.2.2.2.2.2.2.2.2.2.1
theorem GTables.wl_Daemons {x : GTables} (h : x.wf) : x.Daemons.length * 8 ≤ 140737488351232 := h.2.2.2.2.2.2.2.2.2.2.2.2.2.2.2.2.2.2.2.1
theorem GTables.wf_Daemons {x : GTables} (h : x.wf) : (∀ y0 : Int, y0 ∈ x.Daemons → inR .i64 y0) := h.2.2.2.2.2.2.2.2.2.2.2.2.2.2.2.2.2.2.2.2.1
theorem GTables.wl_Params {x : GTables} (h : x.wf) : x.Params.length * 8 ≤ 140737488351232 := h.2.2.2.2.2.2.2.2.2.2.2.2.2.2.2.2.2.2.2.2.2.1
theorem GTables.wf_Params {x : GTables} (h : x.wf) : (∀ y0 : Int, y0 ∈ x.Params → inR .i64 y0) := h.2.2.2.2.2.2.2.2.2.2.2.2.2.2.2.2.2.2.2.2.2.2.1
theorem GTables.wl_Locals {x : GTables} (h : x.wf) : x.Locals.length * 8 ≤ 140737488351232 := h.2.2.2.2.2.2.2.2.2.2.2.2.2.2.2.2.2.2.2.2.2.2.2.1
theorem GTables.wf_Locals {x : GTables} (h : x.wf) : (∀ y0 : Int, y0 ∈ x.Locals → inR .i64 y0) := h.2.2.2.2.2.2.2.2.2.2.2.2.2.2.2.2.2.2.2.2.2.2.2.2
theorem tyK_28 : tyK Go.Proofs.Try.prog 28 = .st [3, 3, 3, 3, 22, 3, 23, 23, 24, 25, 26, 23, 23, 23, 23] := by kernel_rfl
theorem tyK_24 : tyK Go.Proofs.Try.prog 24 = .sl 38 136 := by kernel_rfl
theorem tyK_25 : tyK Go.Proofs.Try.prog 25 = .sl 115 32 := by kernel_rfl
theorem tyK_26 : tyK Go.Proofs.Try.prog 26 = .sl 119 48 := by kernel_rfl
theorem GTables.of {ys : List D} (h : HasT Go.Proofs.Try.prog 28 ys) : ∃ x : GTables, ys = x.enc ∧ x.wf := by
  have h' := HasT.st_inv h tyK_28
  obtain ⟨a0_, r0, hr0, t0, h0⟩ := h'
  obtain ⟨a1_, r1, hr1, t1, h1⟩ := h0
  obtain ⟨a2_, r2, hr2, t2, h2⟩ := h1
  obtain ⟨a3_, r3, hr3, t3, h3⟩ := h2
  obtain ⟨a4_, r4, hr4, t4, h4⟩ := h3
  obtain ⟨a5_, r5, hr5, t5, h5⟩ := h4
  obtain ⟨a6_, r6, hr6, t6, h6⟩ := h5
  obtain ⟨a7_, r7, hr7, t7, h7⟩ := h6
  obtain ⟨a8_, r8, hr8, t8, h8⟩ := h7
  obtain ⟨a9_, r9, hr9, t9, h9⟩ := h8
  obtain ⟨a10_, r10, hr10, t10, h10⟩ := h9
  obtain ⟨a11_, r11, hr11, t11, h11⟩ := h10
  obtain ⟨a12_, r12, hr12, t12, h12⟩ := h11
  obtain ⟨a13_, r13, hr13, t13, h13⟩ := h12
  obtain ⟨a14_, r14, hr14, t14, h14⟩ := h13
  simp only [HasTs] at h14
  subst h14
  subst hr14
  subst hr13
  subst hr12
  subst hr11
  subst hr10
  subst hr9
  subst hr8
  subst hr7
  subst hr6
  subst hr5
  subst hr4
  subst hr3
  subst hr2
  subst hr1
  subst hr0
  obtain ⟨a0_', rfl, a0_w⟩ := HasT.int_inv t0 tyK_3
  obtain ⟨a1_', rfl, a1_w⟩ := HasT.int_inv t1 tyK_3
  obtain ⟨a2_', rfl, a2_w⟩ := HasT.int_inv t2 tyK_3
  obtain ⟨a3_', rfl, a3_w⟩ := HasT.int_inv t3 tyK_3
  obtain ⟨a4_0, rfl, a4_h, a4_l, a4_w⟩ := HasT.sl_inv t4 tyK_22
  obtain ⟨a4_', rfl, a4_a⟩ := map_of (f := (fun y => [D.v (.string y)])) (p := fun (y : ByteArray) => y.size ≤ 140737488351232) (fun a4_e hx => by
    have a4_q := a4_h a4_e hx
    obtain ⟨a4_e', rfl, a4_ew⟩ := HasT.str_inv a4_q tyK_9
    exact ⟨a4_e', rfl, a4_ew⟩)
  obtain ⟨a5_', rfl, a5_w⟩ := HasT.int_inv t5 tyK_3
  obtain ⟨a6_0, rfl, a6_h, a6_l, a6_w⟩ := HasT.sl_inv t6 tyK_23
  obtain ⟨a6_', rfl, a6_a⟩ := map_of (f := (fun y => [D.v (.int .i64 y)])) (p := fun (y : Int) => inR .i64 y) (fun a6_e hx => by
    have a6_q := a6_h a6_e hx
    obtain ⟨a6_e', rfl, a6_ew⟩ := HasT.int_inv a6_q tyK_3
    exact ⟨a6_e', rfl, a6_ew⟩)
  obtain ⟨a7_0, rfl, a7_h, a7_l, a7_w⟩ := HasT.sl_inv t7 tyK_23
  obtain ⟨a7_', rfl, a7_a⟩ := map_of (f := (fun y => [D.v (.int .i64 y)])) (p := fun (y : Int) => inR .i64 y) (fun a7_e hx => by
    have a7_q := a7_h a7_e hx
    obtain ⟨a7_e', rfl, a7_ew⟩ := HasT.int_inv a7_q tyK_3
    exact ⟨a7_e', rfl, a7_ew⟩)
  obtain ⟨a8_0, rfl, a8_h, a8_l, a8_w⟩ := HasT.sl_inv t8 tyK_24
  obtain ⟨a8_', rfl, a8_a⟩ := map_of (f := GThing.enc) (p := fun (y : GThing) => y.wf) (fun a8_e hx => by
    have a8_q := a8_h a8_e hx
    obtain ⟨a8_e', rfl, a8_ew⟩ := GThing.of a8_q
    exact ⟨a8_e', rfl, a8_ew⟩)
  obtain ⟨a9_0, rfl, a9_h, a9_l, a9_w⟩ := HasT.sl_inv t9 tyK_25
  obtain ⟨a9_', rfl, a9_a⟩ := map_of (f := GAct.enc) (p := fun (y : GAct) => y.wf) (fun a9_e hx => by
    have a9_q := a9_h a9_e hx
    obtain ⟨a9_e', rfl, a9_ew⟩ := GAct.of a9_q
    exact ⟨a9_e', rfl, a9_ew⟩)
  obtain ⟨a10_0, rfl, a10_h, a10_l, a10_w⟩ := HasT.sl_inv t10 tyK_26
  obtain ⟨a10_', rfl, a10_a⟩ := map_of (f := GDeed.enc) (p := fun (y : GDeed) => y.wf) (fun a10_e hx => by
    have a10_q := a10_h a10_e hx
    obtain ⟨a10_e', rfl, a10_ew⟩ := GDeed.of a10_q
    exact ⟨a10_e', rfl, a10_ew⟩)
  obtain ⟨a11_0, rfl, a11_h, a11_l, a11_w⟩ := HasT.sl_inv t11 tyK_23
  obtain ⟨a11_', rfl, a11_a⟩ := map_of (f := (fun y => [D.v (.int .i64 y)])) (p := fun (y : Int) => inR .i64 y) (fun a11_e hx => by
    have a11_q := a11_h a11_e hx
    obtain ⟨a11_e', rfl, a11_ew⟩ := HasT.int_inv a11_q tyK_3
    exact ⟨a11_e', rfl, a11_ew⟩)
  obtain ⟨a12_0, rfl, a12_h, a12_l, a12_w⟩ := HasT.sl_inv t12 tyK_23
  obtain ⟨a12_', rfl, a12_a⟩ := map_of (f := (fun y => [D.v (.int .i64 y)])) (p := fun (y : Int) => inR .i64 y) (fun a12_e hx => by
    have a12_q := a12_h a12_e hx
    obtain ⟨a12_e', rfl, a12_ew⟩ := HasT.int_inv a12_q tyK_3
    exact ⟨a12_e', rfl, a12_ew⟩)
  obtain ⟨a13_0, rfl, a13_h, a13_l, a13_w⟩ := HasT.sl_inv t13 tyK_23
  obtain ⟨a13_', rfl, a13_a⟩ := map_of (f := (fun y => [D.v (.int .i64 y)])) (p := fun (y : Int) => inR .i64 y) (fun a13_e hx => by
    have a13_q := a13_h a13_e hx
    obtain ⟨a13_e', rfl, a13_ew⟩ := HasT.int_inv a13_q tyK_3
    exact ⟨a13_e', rfl, a13_ew⟩)
  obtain ⟨a14_0, rfl, a14_h, a14_l, a14_w⟩ := HasT.sl_inv t14 tyK_23
  obtain ⟨a14_', rfl, a14_a⟩ := map_of (f := (fun y => [D.v (.int .i64 y)])) (p := fun (y : Int) => inR .i64 y) (fun a14_e hx => by
    have a14_q := a14_h a14_e hx
    obtain ⟨a14_e', rfl, a14_ew⟩ := HasT.int_inv a14_q tyK_3
    exact ⟨a14_e', rfl, a14_ew⟩)
  exact ⟨⟨a0_', a1_', a2_', a3_', a4_', a5_', a6_', a7_', a8_', a9_', a10_', a11_', a12_', a13_', a14_'⟩, rfl, ⟨a0_w, a1_w, a2_w, a3_w, (by simpa using a4_w), a4_a, a5_w, (by simpa using a6_w), a6_a, (by simpa using a7_w), a7_a, (by simpa using a8_w), a8_a, (by simpa using a9_w), a9_a, (by simpa using a10_w), a10_a, (by simpa using a11_w), a11_a, (by simpa using a12_w), a12_a, (by simpa using a13_w), a13_a, (by simpa using a14_w), a14_a⟩⟩
inductive GExpr where
  | mk (Kind : Int) (Op : Int) (Num : Int) (Name : ByteArray) (Args : (List GExpr))
def GExpr.Kind : GExpr → Int
  | .mk a0 a1 a2 a3 a4 => a0
def GExpr.Op : GExpr → Int
  | .mk a0 a1 a2 a3 a4 => a1
def GExpr.Num : GExpr → Int
  | .mk a0 a1 a2 a3 a4 => a2
def GExpr.Name : GExpr → ByteArray
  | .mk a0 a1 a2 a3 a4 => a3
def GExpr.Args : GExpr → (List GExpr)
  | .mk a0 a1 a2 a3 a4 => a4
mutual
def GExpr.enc : GExpr → List D
  | .mk a0 a1 a2 a3 a4 => [D.v (.int .i64 a0), D.v (.int .i64 a1), D.v (.int .i64 a2), D.v (.string a3), D.sl (GExpr.encs a4)]
def GExpr.encs : List GExpr → List (List D)
  | [] => []
  | x :: l => x.enc :: GExpr.encs l
end
theorem GExpr.encs_eq : ∀ l : List GExpr, GExpr.encs l = l.map GExpr.enc
  | [] => rfl
  | x :: l => by rw [GExpr.encs, GExpr.encs_eq l]; rfl
theorem GExpr.enc_eq (x : GExpr) : x.enc = [D.v (.int .i64 x.Kind), D.v (.int .i64 x.Op), D.v (.int .i64 x.Num), D.v (.string x.Name), D.sl (x.Args.map GExpr.enc)] := by
  cases x
  simp only [GExpr.enc, GExpr.encs_eq]
  rfl
@[simp] theorem GExpr.enc_length (x : GExpr) : x.enc.length = 5 := by cases x; rfl
@[simp] theorem GExpr.enc_0 (x : GExpr) : x.enc[0]? = some (D.v (.int .i64 x.Kind)) := by rw [GExpr.enc_eq]; rfl
@[simp] theorem GExpr.encg_0 (x : GExpr) (h : 0 < x.enc.length) : x.enc[0] = D.v (.int .i64 x.Kind) := by
  have := GExpr.enc_0 x
  rw [List.getElem?_eq_getElem h] at this
  exact Option.some.inj this
@[simp] theorem GExpr.enc_1 (x : GExpr) : x.enc[1]? = some (D.v (.int .i64 x.Op)) := by rw [GExpr.enc_eq]; rfl
@[simp] theorem GExpr.encg_1 (x : GExpr) (h : 1 < x.enc.length) : x.enc[1] = D.v (.int .i64 x.Op) := by
  have := GExpr.enc_1 x
  rw [List.getElem?_eq_getElem h] at this
  exact Option.some.inj this
@[simp] theorem GExpr.enc_2 (x : GExpr) : x.enc[2]? = some (D.v (.int .i64 x.Num)) := by rw [GExpr.enc_eq]; rfl
@[simp] theorem GExpr.encg_2 (x : GExpr) (h : 2 < x.enc.length) : x.enc[2] = D.v (.int .i64 x.Num) := by
  have := GExpr.enc_2 x
  rw [List.getElem?_eq_getElem h] at this
  exact Option.some.inj this
@[simp] theorem GExpr.enc_3 (x : GExpr) : x.enc[3]? = some (D.v (.string x.Name)) := by rw [GExpr.enc_eq]; rfl
@[simp] theorem GExpr.encg_3 (x : GExpr) (h : 3 < x.enc.length) : x.enc[3] = D.v (.string x.Name) := by
  have := GExpr.enc_3 x
  rw [List.getElem?_eq_getElem h] at this
  exact Option.some.inj this
@[simp] theorem GExpr.enc_4 (x : GExpr) : x.enc[4]? = some (D.sl (x.Args.map GExpr.enc)) := by rw [GExpr.enc_eq]; rfl
@[simp] theorem GExpr.encg_4 (x : GExpr) (h : 4 < x.enc.length) : x.enc[4] = D.sl (x.Args.map GExpr.enc) := by
  have := GExpr.enc_4 x
  rw [List.getElem?_eq_getElem h] at this
  exact Option.some.inj this
@[simp] theorem GExpr.fzV (L : Heap) (x : GExpr) : V.fzs L (x.enc.map V.d) = x.enc.map V.d := by simp [GExpr.enc_eq, V.fzs, V.fz]
def GExpr.zero : GExpr := .mk (0) (0) (0) (⟨#[]⟩) ([])
theorem GExpr.zero_enc : GExpr.zero.enc = [D.v (.int .i64 0), D.v (.int .i64 0), D.v (.int .i64 0), D.v (.string ⟨#[]⟩), D.sl []] := rfl
@[simp] theorem GExpr.getZ (o : Option GExpr) : (o.map GExpr.enc).getD [D.v (.int .i64 0), D.v (.int .i64 0), D.v (.int .i64 0), D.v (.string ⟨#[]⟩), D.sl []] = (o.getD GExpr.zero).enc := by cases o <;> rfl
@[simp] theorem GExpr.getV (o : Option GExpr) : (o.map (fun x => x.enc.map V.d)).getD [V.d (D.v (.int .i64 0)), V.d (D.v (.int .i64 0)), V.d (D.v (.int .i64 0)), V.d (D.v (.string ⟨#[]⟩)), V.d (D.sl [])] = ((o.getD GExpr.zero).enc).map V.d := by cases o <;> rfl
theorem GExpr.cellAt (l : List GExpr) (i j : Nat) (z : D) (h : GExpr.zero.enc[j]? = some z) : cellAt (dd (l.map GExpr.enc)) i j [V.d z] = V.d (((l[i]?.getD GExpr.zero).enc[j]?).getD default) := by
  unfold Go.Ab.cellAt
  rw [dd_get, List.getElem?_map]
  cases hl : l[i]? with
  | none => simp [h]
  | some a =>
    have hj := (List.getElem?_eq_some_iff.1 h).1
    have hj' : j < a.enc.length := by rw [GExpr.enc_length] at hj ⊢; exact hj
    simp only [Option.map_some, List.getElem?_map, List.getElem?_eq_getElem hj', Option.getD_some]
@[simp] theorem GExpr.cellAt_0 (l : List GExpr) (i : Nat) : Go.Ab.cellAt (dd (l.map GExpr.enc)) i 0 [V.d (D.v (.int .i64 0))] = V.d (D.v (.int .i64 (l[i]?.getD GExpr.zero).Kind)) := (GExpr.cellAt l i 0 (D.v (.int .i64 0)) rfl).trans (by simp)
@[simp] theorem GExpr.cellAt_1 (l : List GExpr) (i : Nat) : Go.Ab.cellAt (dd (l.map GExpr.enc)) i 1 [V.d (D.v (.int .i64 0))] = V.d (D.v (.int .i64 (l[i]?.getD GExpr.zero).Op)) := (GExpr.cellAt l i 1 (D.v (.int .i64 0)) rfl).trans (by simp)
@[simp] theorem GExpr.cellAt_2 (l : List GExpr) (i : Nat) : Go.Ab.cellAt (dd (l.map GExpr.enc)) i 2 [V.d (D.v (.int .i64 0))] = V.d (D.v (.int .i64 (l[i]?.getD GExpr.zero).Num)) := (GExpr.cellAt l i 2 (D.v (.int .i64 0)) rfl).trans (by simp)
@[simp] theorem GExpr.cellAt_3 (l : List GExpr) (i : Nat) : Go.Ab.cellAt (dd (l.map GExpr.enc)) i 3 [V.d (D.v (.string ⟨#[]⟩))] = V.d (D.v (.string (l[i]?.getD GExpr.zero).Name)) := (GExpr.cellAt l i 3 (D.v (.string ⟨#[]⟩)) rfl).trans (by simp)
@[simp] theorem GExpr.cellAt_4 (l : List GExpr) (i : Nat) : Go.Ab.cellAt (dd (l.map GExpr.enc)) i 4 [V.d (D.sl [])] = V.d (D.sl ((l[i]?.getD GExpr.zero).Args.map GExpr.enc)) := (GExpr.cellAt l i 4 (D.sl []) rfl).trans (by simp)
@[simp] theorem GExpr.aggAt (l : List GExpr) (i : Nat) : Go.Ab.aggAt (dd (l.map GExpr.enc)) i 0 5 [V.d (D.v (.int .i64 0)), V.d (D.v (.int .i64 0)), V.d (D.v (.int .i64 0)), V.d (D.v (.string ⟨#[]⟩)), V.d (D.sl [])] = (l[i]?.getD GExpr.zero).enc.map V.d := by
  unfold Go.Ab.aggAt
  rw [dd_get, List.getElem?_map]
  cases l[i]? with
  | none => rfl
  | some x => simp; cases x; rfl
@[simp] theorem GExpr.dropAll (x : GExpr) : List.drop 5 x.enc = [] := by cases x; rfl
@[simp] theorem GExpr.dropAllv (x : GExpr) : List.drop 5 (x.enc.map V.d) = [] := by cases x; rfl
@[simp] theorem GExpr.enc_all (x : GExpr) : x.enc.take 5 = x.enc := by cases x; rfl
@[simp] theorem GExpr.enc_allv (x : GExpr) : List.take 5 (x.enc.map V.d) = x.enc.map V.d := by cases x; rfl
mutual
def GExpr.wf : GExpr → Prop
  | .mk a0 a1 a2 a3 a4 => inR .i64 a0 ∧ inR .i64 a1 ∧ inR .i64 a2 ∧ a3.size ≤ 140737488351232 ∧ a4.length * 64 ≤ 140737488351232 ∧ GExpr.wfs a4
def GExpr.wfs : List GExpr → Prop
  | [] => True
  | x :: l => x.wf ∧ GExpr.wfs l
end
theorem GExpr.wfs_iff : ∀ l : List GExpr, GExpr.wfs l ↔ ∀ y ∈ l, y.wf
  | [] => by simp [GExpr.wfs]
  | x :: l => by rw [GExpr.wfs, GExpr.wfs_iff l]; simp
theorem GExpr.wf_iff (x : GExpr) : x.wf ↔ inR .i64 x.Kind ∧ inR .i64 x.Op ∧ inR .i64 x.Num ∧ x.Name.size ≤ 140737488351232 ∧ x.Args.length * 64 ≤ 140737488351232 ∧ (∀ y0 : GExpr, y0 ∈ x.Args → y0.wf) := by
  cases x
  simp only [GExpr.wf, GExpr.wfs_iff]
  rfl
theorem GExpr.wf_Kind {x : GExpr} (h : x.wf) : inR .i64 x.Kind := ((GExpr.wf_iff x).1 h).1
theorem GExpr.wf_Op {x : GExpr} (h : x.wf) : inR .i64 x.Op := ((GExpr.wf_iff x).1 h).2.1
theorem GExpr.wf_Num {x : GExpr} (h : x.wf) : inR .i64 x.Num := ((GExpr.wf_iff x).1 h).2.2.1
theorem GExpr.wf_Name {x : GExpr} (h : x.wf) : x.Name.size ≤ 140737488351232 := ((GExpr.wf_iff x).1 h).2.2.2.1
theorem GExpr.wl_Args {x : GExpr} (h : x.wf) : x.Args.length * 64 ≤ 140737488351232 := ((GExpr.wf_iff x).1 h).2.2.2.2.1
theorem GExpr.wf_Args {x : GExpr} (h : x.wf) : (∀ y0 : GExpr, y0 ∈ x.Args → y0.wf) := ((GExpr.wf_iff x).1 h).2.2.2.2.2
theorem tyK_53 : tyK Go.Proofs.Try.prog 53 = .st [3, 3, 3, 9, 51] := by kernel_rfl
theorem tyK_51 : tyK Go.Proofs.Try.prog 51 = .sl 53 64 := by kernel_rfl
theorem GExpr.of' : ∀ (n : Nat) {ys : List D}, SizeOf.sizeOf ys < n → HasT Go.Proofs.Try.prog 53 ys → ∃ x : GExpr, ys = x.enc ∧ x.wf := by
  intro n
  induction n with
  | zero => intro ys h; omega
  | succ n ih =>
  intro ys hsz h
  have h' := HasT.st_inv h tyK_53
  obtain ⟨a0_, r0, hr0, t0, h0⟩ := h'
  obtain ⟨a1_, r1, hr1, t1, h1⟩ := h0
  obtain ⟨a2_, r2, hr2, t2, h2⟩ := h1
  obtain ⟨a3_, r3, hr3, t3, h3⟩ := h2
  obtain ⟨a4_, r4, hr4, t4, h4⟩ := h3
  simp only [HasTs] at h4
  subst h4
  subst hr4
  subst hr3
  subst hr2
  subst hr1
  subst hr0
  obtain ⟨a0_', rfl, a0_w⟩ := HasT.int_inv t0 tyK_3
  obtain ⟨a1_', rfl, a1_w⟩ := HasT.int_inv t1 tyK_3
  obtain ⟨a2_', rfl, a2_w⟩ := HasT.int_inv t2 tyK_3
  obtain ⟨a3_', rfl, a3_w⟩ := HasT.str_inv t3 tyK_9
  obtain ⟨a4_0, rfl, a4_h, a4_l, a4_w⟩ := HasT.sl_inv t4 tyK_51
  obtain ⟨a4_', rfl, a4_a⟩ := map_of (f := GExpr.enc) (p := GExpr.wf) (fun a4_e hx => ih (by have hlt := List.sizeOf_lt_of_mem hx; simp at hsz; omega) (a4_h a4_e hx))
  exact ⟨.mk a0_' a1_' a2_' a3_' a4_', by rw [GExpr.enc_eq]; rfl, by rw [GExpr.wf]; exact ⟨a0_w, a1_w, a2_w, a3_w, (by simpa using a4_w), (GExpr.wfs_iff _).2 a4_a⟩⟩
theorem GExpr.of {ys : List D} (h : HasT Go.Proofs.Try.prog 53 ys) : ∃ x : GExpr, ys = x.enc ∧ x.wf := GExpr.of' _ (Nat.lt_succ_self _) h
inductive GStmt where
  | mk (Kind : Int) (Num : Int) (Name : ByteArray) (Args : (List GExpr)) (Body : (List GStmt)) (Else : (List GStmt))
def GStmt.Kind : GStmt → Int
  | .mk a0 a1 a2 a3 a4 a5 => a0
def GStmt.Num : GStmt → Int
  | .mk a0 a1 a2 a3 a4 a5 => a1
def GStmt.Name : GStmt → ByteArray
  | .mk a0 a1 a2 a3 a4 a5 => a2
def GStmt.Args : GStmt → (List GExpr)
  | .mk a0 a1 a2 a3 a4 a5 => a3
def GStmt.Body : GStmt → (List GStmt)
  | .mk a0 a1 a2 a3 a4 a5 => a4
def GStmt.Else : GStmt → (List GStmt)
  | .mk a0 a1 a2 a3 a4 a5 => a5
mutual
def GStmt.enc : GStmt → List D
  | .mk a0 a1 a2 a3 a4 a5 => [D.v (.int .i64 a0), D.v (.int .i64 a1), D.v (.string a2), D.sl (a3.map GExpr.enc), D.sl (GStmt.encs a4), D.sl (GStmt.encs a5)]
def GStmt.encs : List GStmt → List (List D)
  | [] => []
  | x :: l => x.enc :: GStmt.encs l
end
theorem GStmt.encs_eq : ∀ l : List GStmt, GStmt.encs l = l.map GStmt.enc
  | [] => rfl
  | x :: l => by rw [GStmt.encs, GStmt.encs_eq l]; rfl
theorem GStmt.enc_eq (x : GStmt) : x.enc = [D.v (.int .i64 x.Kind), D.v (.int .i64 x.Num), D.v (.string x.Name), D.sl (x.Args.map GExpr.enc), D.sl (x.Body.map GStmt.enc), D.sl (x.Else.map GStmt.enc)] := by
  cases x
  simp only [GStmt.enc, GStmt.encs_eq]
  rfl
@[simp] theorem GStmt.enc_length (x : GStmt) : x.enc.length = 6 := by cases x; rfl
@[simp] theorem GStmt.enc_0 (x : GStmt) : x.enc[0]? = some (D.v (.int .i64 x.Kind)) := by rw [GStmt.enc_eq]; rfl
@[simp] theorem GStmt.encg_0 (x : GStmt) (h : 0 < x.enc.length) : x.enc[0] = D.v (.int .i64 x.Kind) := by
  have := GStmt.enc_0 x
  rw [List.getElem?_eq_getElem h] at this
  exact Option.some.inj this
@[simp] theorem GStmt.enc_1 (x : GStmt) : x.enc[1]? = some (D.v (.int .i64 x.Num)) := by rw [GStmt.enc_eq]; rfl
@[simp] theorem GStmt.encg_1 (x : GStmt) (h : 1 < x.enc.length) : x.enc[1] = D.v (.int .i64 x.Num) := by
  have := GStmt.enc_1 x
  rw [List.getElem?_eq_getElem h] at this
  exact Option.some.inj this
@[simp] theorem GStmt.enc_2 (x : GStmt) : x.enc[2]? = some (D.v (.string x.Name)) := by rw [GStmt.enc_eq]; rfl
@[simp] theorem GStmt.encg_2 (x : GStmt) (h : 2 < x.enc.length) : x.enc[2] = D.v (.string x.Name) := by
  have := GStmt.enc_2 x
  rw [List.getElem?_eq_getElem h] at this
  exact Option.some.inj this
@[simp] theorem GStmt.enc_3 (x : GStmt) : x.enc[3]? = some (D.sl (x.Args.map GExpr.enc)) := by rw [GStmt.enc_eq]; rfl
@[simp] theorem GStmt.encg_3 (x : GStmt) (h : 3 < x.enc.length) : x.enc[3] = D.sl (x.Args.map GExpr.enc) := by
  have := GStmt.enc_3 x
  rw [List.getElem?_eq_getElem h] at this
  exact Option.some.inj this
@[simp] theorem GStmt.enc_4 (x : GStmt) : x.enc[4]? = some (D.sl (x.Body.map GStmt.enc)) := by rw [GStmt.enc_eq]; rfl
@[simp] theorem GStmt.encg_4 (x : GStmt) (h : 4 < x.enc.length) : x.enc[4] = D.sl (x.Body.map GStmt.enc) := by
  have := GStmt.enc_4 x
  rw [List.getElem?_eq_getElem h] at this
  exact Option.some.inj this
@[simp] theorem GStmt.enc_5 (x : GStmt) : x.enc[5]? = some (D.sl (x.Else.map GStmt.enc)) := by rw [GStmt.enc_eq]; rfl
@[simp] theorem GStmt.encg_5 (x : GStmt) (h : 5 < x.enc.length) : x.enc[5] = D.sl (x.Else.map GStmt.enc) := by
  have := GStmt.enc_5 x
  rw [List.getElem?_eq_getElem h] at this
  exact Option.some.inj this
@[simp] theorem GStmt.fzV (L : Heap) (x : GStmt) : V.fzs L (x.enc.map V.d) = x.enc.map V.d := by simp [GStmt.enc_eq, V.fzs, V.fz]
def GStmt.zero : GStmt := .mk (0) (0) (⟨#[]⟩) ([]) ([]) ([])
theorem GStmt.zero_enc : GStmt.zero.enc = [D.v (.int .i64 0), D.v (.int .i64 0), D.v (.string ⟨#[]⟩), D.sl [], D.sl [], D.sl []] := rfl
@[simp] theorem GStmt.getZ (o : Option GStmt) : (o.map GStmt.enc).getD [D.v (.int .i64 0), D.v (.int .i64 0), D.v (.string ⟨#[]⟩), D.sl [], D.sl [], D.sl []] = (o.getD GStmt.zero).enc := by cases o <;> rfl
@[simp] theorem GStmt.getV (o : Option GStmt) : (o.map (fun x => x.enc.map V.d)).getD [V.d (D.v (.int .i64 0)), V.d (D.v (.int .i64 0)), V.d (D.v (.string ⟨#[]⟩)), V.d (D.sl []), V.d (D.sl []), V.d (D.sl [])] = ((o.getD GStmt.zero).enc).map V.d := by cases o <;> rfl
theorem GStmt.cellAt (l : List GStmt) (i j : Nat) (z : D) (h : GStmt.zero.enc[j]? = some z) : cellAt (dd (l.map GStmt.enc)) i j [V.d z] = V.d (((l[i]?.getD GStmt.zero).enc[j]?).getD default) := by
  unfold Go.Ab.cellAt
  rw [dd_get, List.getElem?_map]
  cases hl : l[i]? with
  | none => simp [h]
  | some a =>
    have hj := (List.getElem?_eq_some_iff.1 h).1
    have hj' : j < a.enc.length := by rw [GStmt.enc_length] at hj ⊢; exact hj
    simp only [Option.map_some, List.getElem?_map, List.getElem?_eq_getElem hj', Option.getD_some]
@[simp] theorem GStmt.cellAt_0 (l : List GStmt) (i : Nat) : Go.Ab.cellAt (dd (l.map GStmt.enc)) i 0 [V.d (D.v (.int .i64 0))] = V.d (D.v (.int .i64 (l[i]?.getD GStmt.zero).Kind)) := (GStmt.cellAt l i 0 (D.v (.int .i64 0)) rfl).trans (by simp)
@[simp] theorem GStmt.cellAt_1 (l : List GStmt) (i : Nat) : Go.Ab.cellAt (dd (l.map GStmt.enc)) i 1 [V.d (D.v (.int .i64 0))] = V.d (D.v (.int .i64 (l[i]?.getD GStmt.zero).Num)) := (GStmt.cellAt l i 1 (D.v (.int .i64 0)) rfl).trans (by simp)
@[simp] theorem GStmt.cellAt_2 (l : List GStmt) (i : Nat) : Go.Ab.cellAt (dd (l.map GStmt.enc)) i 2 [V.d (D.v (.string ⟨#[]⟩))] = V.d (D.v (.string (l[i]?.getD GStmt.zero).Name)) := (GStmt.cellAt l i 2 (D.v (.string ⟨#[]⟩)) rfl).trans (by simp)
@[simp] theorem GStmt.cellAt_3 (l : List GStmt) (i : Nat) : Go.Ab.cellAt (dd (l.map GStmt.enc)) i 3 [V.d (D.sl [])] = V.d (D.sl ((l[i]?.getD GStmt.zero).Args.map GExpr.enc)) := (GStmt.cellAt l i 3 (D.sl []) rfl).trans (by simp)
@[simp] theorem GStmt.cellAt_4 (l : List GStmt) (i : Nat) : Go.Ab.cellAt (dd (l.map GStmt.enc)) i 4 [V.d (D.sl [])] = V.d (D.sl ((l[i]?.getD GStmt.zero).Body.map GStmt.enc)) := (GStmt.cellAt l i 4 (D.sl []) rfl).trans (by simp)
@[simp] theorem GStmt.cellAt_5 (l : List GStmt) (i : Nat) : Go.Ab.cellAt (dd (l.map GStmt.enc)) i 5 [V.d (D.sl [])] = V.d (D.sl ((l[i]?.getD GStmt.zero).Else.map GStmt.enc)) := (GStmt.cellAt l i 5 (D.sl []) rfl).trans (by simp)
@[simp] theorem GStmt.aggAt (l : List GStmt) (i : Nat) : Go.Ab.aggAt (dd (l.map GStmt.enc)) i 0 6 [V.d (D.v (.int .i64 0)), V.d (D.v (.int .i64 0)), V.d (D.v (.string ⟨#[]⟩)), V.d (D.sl []), V.d (D.sl []), V.d (D.sl [])] = (l[i]?.getD GStmt.zero).enc.map V.d := by
  unfold Go.Ab.aggAt
  rw [dd_get, List.getElem?_map]
  cases l[i]? with
  | none => rfl
  | some x => simp; cases x; rfl
@[simp] theorem GStmt.dropAll (x : GStmt) : List.drop 6 x.enc = [] := by cases x; rfl
@[simp] theorem GStmt.dropAllv (x : GStmt) : List.drop 6 (x.enc.map V.d) = [] := by cases x; rfl
@[simp] theorem GStmt.enc_all (x : GStmt) : x.enc.take 6 = x.enc := by cases x; rfl
@[simp] theorem GStmt.enc_allv (x : GStmt) : List.take 6 (x.enc.map V.d) = x.enc.map V.d := by cases x; rfl
mutual
def GStmt.wf : GStmt → Prop
  | .mk a0 a1 a2 a3 a4 a5 => inR .i64 a0 ∧ inR .i64 a1 ∧ a2.size ≤ 140737488351232 ∧ a3.length * 64 ≤ 140737488351232 ∧ (∀ y0 : GExpr, y0 ∈ a3 → y0.wf) ∧ a4.length * 104 ≤ 140737488351232 ∧ GStmt.wfs a4 ∧ a5.length * 104 ≤ 140737488351232 ∧ GStmt.wfs a5
def GStmt.wfs : List GStmt → Prop
  | [] => True
  | x :: l => x.wf ∧ GStmt.wfs l
end
theorem GStmt.wfs_iff : ∀ l : List GStmt, GStmt.wfs l ↔ ∀ y ∈ l, y.wf
  | [] => by simp [GStmt.wfs]
  | x :: l => by rw [GStmt.wfs, GStmt.wfs_iff l]; simp
theorem GStmt.wf_iff (x : GStmt) : x.wf ↔ inR .i64 x.Kind ∧ inR .i64 x.Num ∧ x.Name.size ≤ 140737488351232 ∧ x.Args.length * 64 ≤ 140737488351232 ∧ (∀ y0 : GExpr, y0 ∈ x.Args → y0.wf) ∧ x.Body.length * 104 ≤ 140737488351232 ∧ (∀ y0 : GStmt, y0 ∈ x.Body → y0.wf) ∧ x.Else.length * 104 ≤ 140737488351232 ∧ (∀ y0 : GStmt, y0 ∈ x.Else → y0.wf) := by
  cases x
  simp only [GStmt.wf, GStmt.wfs_iff]
  rfl
theorem GStmt.wf_Kind {x : GStmt} (h : x.wf) : inR .i64 x.Kind := ((GStmt.wf_iff x).1 h).1
theorem GStmt.wf_Num {x : GStmt} (h : x.wf) : inR .i64 x.Num := ((GStmt.wf_iff x).1 h).2.1
theorem GStmt.wf_Name {x : GStmt} (h : x.wf) : x.Name.size ≤ 140737488351232 := ((GStmt.wf_iff x).1 h).2.2.1
theorem GStmt.wl_Args {x : GStmt} (h : x.wf) : x.Args.length * 64 ≤ 140737488351232 := ((GStmt.wf_iff x).1 h).2.2.2.1
theorem GStmt.wf_Args {x : GStmt} (h : x.wf) : (∀ y0 : GExpr, y0 ∈ x.Args → y0.wf) := ((GStmt.wf_iff x).1 h).2.2.2.2.1
theorem GStmt.wl_Body {x : GStmt} (h : x.wf) : x.Body.length * 104 ≤ 140737488351232 := ((GStmt.wf_iff x).1 h).2.2.2.2.2.1
theorem GStmt.wf_Body {x : GStmt} (h : x.wf) : (∀ y0 : GStmt, y0 ∈ x.Body → y0.wf) := ((GStmt.wf_iff x).1 h).2.2.2.2.2.2.1
theorem GStmt.wl_Else {x : GStmt} (h : x.wf) : x.Else.length * 104 ≤ 140737488351232 := ((GStmt.wf_iff x).1 h).2.2.2.2.2.2.2.1
theorem GStmt.wf_Else {x : GStmt} (h : x.wf) : (∀ y0 : GStmt, y0 ∈ x.Else → y0.wf) := ((GStmt.wf_iff x).1 h).2.2.2.2.2.2.2.2
theorem tyK_94 : tyK Go.Proofs.Try.prog 94 = .st [3, 3, 9, 51, 59, 59] := by kernel_rfl
theorem tyK_59 : tyK Go.Proofs.Try.prog 59 = .sl 94 104 := by kernel_rfl
theorem GStmt.of' : ∀ (n : Nat) {ys : List D}, SizeOf.sizeOf ys < n → HasT Go.Proofs.Try.prog 94 ys → ∃ x : GStmt, ys = x.enc ∧ x.wf := by
  intro n
  induction n with
  | zero => intro ys h; omega
  | succ n ih =>
  intro ys hsz h
  have h' := HasT.st_inv h tyK_94
  obtain ⟨a0_, r0, hr0, t0, h0⟩ := h'
  obtain ⟨a1_, r1, hr1, t1, h1⟩ := h0
  obtain ⟨a2_, r2, hr2, t2, h2⟩ := h1
  obtain ⟨a3_, r3, hr3, t3, h3⟩ := h2
  obtain ⟨a4_, r4, hr4, t4, h4⟩ := h3
  obtain ⟨a5_, r5, hr5, t5, h5⟩ := h4
  simp only [HasTs] at h5
  subst h5
  subst hr5
  subst hr4
  subst hr3
  subst hr2
  subst hr1
  subst hr0
  obtain ⟨a0_', rfl, a0_w⟩ := HasT.int_inv t0 tyK_3
  obtain ⟨a1_', rfl, a1_w⟩ := HasT.int_inv t1 tyK_3
  obtain ⟨a2_', rfl, a2_w⟩ := HasT.str_inv t2 tyK_9
  obtain ⟨a3_0, rfl, a3_h, a3_l, a3_w⟩ := HasT.sl_inv t3 tyK_51
  obtain ⟨a3_', rfl, a3_a⟩ := map_of (f := GExpr.enc) (p := fun (y : GExpr) => y.wf) (fun a3_e hx => by
    have a3_q := a3_h a3_e hx
    obtain ⟨a3_e', rfl, a3_ew⟩ := GExpr.of a3_q
    exact ⟨a3_e', rfl, a3_ew⟩)
  obtain ⟨a4_0, rfl, a4_h, a4_l, a4_w⟩ := HasT.sl_inv t4 tyK_59
  obtain ⟨a4_', rfl, a4_a⟩ := map_of (f := GStmt.enc) (p := GStmt.wf) (fun a4_e hx => ih (by have hlt := List.sizeOf_lt_of_mem hx; simp at hsz; omega) (a4_h a4_e hx))
  obtain ⟨a5_0, rfl, a5_h, a5_l, a5_w⟩ := HasT.sl_inv t5 tyK_59
  obtain ⟨a5_', rfl, a5_a⟩ := map_of (f := GStmt.enc) (p := GStmt.wf) (fun a5_e hx => ih (by have hlt := List.sizeOf_lt_of_mem hx; simp at hsz; omega) (a5_h a5_e hx))
  exact ⟨.mk a0_' a1_' a2_' a3_' a4_' a5_', by rw [GStmt.enc_eq]; rfl, by rw [GStmt.wf]; exact ⟨a0_w, a1_w, a2_w, (by simpa using a3_w), a3_a, (by simpa using a4_w), (GStmt.wfs_iff _).2 a4_a, (by simpa using a5_w), (GStmt.wfs_iff _).2 a5_a⟩⟩
theorem GStmt.of {ys : List D} (h : HasT Go.Proofs.Try.prog 94 ys) : ∃ x : GStmt, ys = x.enc ∧ x.wf := GStmt.of' _ (Nat.lt_succ_self _) h
structure GIns where
  Op : Int
  Arg : Int
  deriving DecidableEq
def GIns.enc (x : GIns) : List D := [D.v (.int .i64 x.Op), D.v (.int .i64 x.Arg)]
@[simp] theorem GIns.enc_length (x : GIns) : x.enc.length = 2 := rfl
@[simp] theorem GIns.enc_0 (x : GIns) : x.enc[0]? = some (D.v (.int .i64 x.Op)) := rfl
@[simp] theorem GIns.encg_0 (x : GIns) (h : 0 < x.enc.length) : x.enc[0] = D.v (.int .i64 x.Op) := rfl
@[simp] theorem GIns.enc_1 (x : GIns) : x.enc[1]? = some (D.v (.int .i64 x.Arg)) := rfl
@[simp] theorem GIns.encg_1 (x : GIns) (h : 1 < x.enc.length) : x.enc[1] = D.v (.int .i64 x.Arg) := rfl
@[simp] theorem GIns.fzV (L : Heap) (x : GIns) : V.fzs L (x.enc.map V.d) = x.enc.map V.d := by simp [GIns.enc, V.fzs, V.fz]
@[simp] theorem GIns.eqV (x y : GIns) : eqVs (x.enc.map V.d) (y.enc.map V.d) = some (decide (x = y)) := by
  rcases x with ⟨a_0, a_1⟩
  rcases y with ⟨b_0, b_1⟩
  simp only [GIns.enc, List.map, eqVs, vals, eqVals, eqV1, if_true, Option.some.injEq, bytes_beq]
  rw [Bool.eq_iff_iff]
  simp [and_assoc]
@[simp] theorem GIns.fitV (x : GIns) : fitVs [.i .i64, .i .i64] (x.enc.map V.d) = true := by
  simp [GIns.enc, fitVs, vals, fits, fit1]
def GIns.zero : GIns := ⟨0, 0⟩
theorem GIns.zero_enc : GIns.zero.enc = [D.v (.int .i64 0), D.v (.int .i64 0)] := rfl
@[simp] theorem GIns.getZ (o : Option GIns) : (o.map GIns.enc).getD [D.v (.int .i64 0), D.v (.int .i64 0)] = (o.getD GIns.zero).enc := by cases o <;> rfl
@[simp] theorem GIns.getV (o : Option GIns) : (o.map (fun x => x.enc.map V.d)).getD [V.d (D.v (.int .i64 0)), V.d (D.v (.int .i64 0))] = ((o.getD GIns.zero).enc).map V.d := by cases o <;> rfl
theorem GIns.cellAt (l : List GIns) (i j : Nat) (z : D) (h : GIns.zero.enc[j]? = some z) : cellAt (dd (l.map GIns.enc)) i j [V.d z] = V.d (((l[i]?.getD GIns.zero).enc[j]?).getD default) := by
  unfold Go.Ab.cellAt
  rw [dd_get, List.getElem?_map]
  cases hl : l[i]? with
  | none => simp [h]
  | some a =>
    have hj := (List.getElem?_eq_some_iff.1 h).1
    have hj' : j < a.enc.length := by rw [GIns.enc_length] at hj ⊢; exact hj
    simp only [Option.map_some, List.getElem?_map, List.getElem?_eq_getElem hj', Option.getD_some]
@[simp] theorem GIns.cellAt_0 (l : List GIns) (i : Nat) : Go.Ab.cellAt (dd (l.map GIns.enc)) i 0 [V.d (D.v (.int .i64 0))] = V.d (D.v (.int .i64 (l[i]?.getD GIns.zero).Op)) := (GIns.cellAt l i 0 (D.v (.int .i64 0)) rfl).trans (by simp)
@[simp] theorem GIns.cellAt_1 (l : List GIns) (i : Nat) : Go.Ab.cellAt (dd (l.map GIns.enc)) i 1 [V.d (D.v (.int .i64 0))] = V.d (D.v (.int .i64 (l[i]?.getD GIns.zero).Arg)) := (GIns.cellAt l i 1 (D.v (.int .i64 0)) rfl).trans (by simp)
@[simp] theorem GIns.aggAt (l : List GIns) (i : Nat) : Go.Ab.aggAt (dd (l.map GIns.enc)) i 0 2 [V.d (D.v (.int .i64 0)), V.d (D.v (.int .i64 0))] = (l[i]?.getD GIns.zero).enc.map V.d := by
  unfold Go.Ab.aggAt
  rw [dd_get, List.getElem?_map]
  cases l[i]? with
  | none => rfl
  | some x => simp; cases x; rfl
@[simp] theorem GIns.dropAll (x : GIns) : List.drop 2 x.enc = [] := rfl
@[simp] theorem GIns.dropAllv (x : GIns) : List.drop 2 (x.enc.map V.d) = [] := rfl
@[simp] theorem GIns.enc_all (x : GIns) : x.enc.take 2 = x.enc := rfl
@[simp] theorem GIns.enc_allv (x : GIns) : List.take 2 (x.enc.map V.d) = x.enc.map V.d := rfl
def GIns.wf (x : GIns) : Prop := inR .i64 x.Op ∧ inR .i64 x.Arg
theorem GIns.wf_Op {x : GIns} (h : x.wf) : inR .i64 x.Op := h.1
theorem GIns.wf_Arg {x : GIns} (h : x.wf) : inR .i64 x.Arg := h.2
theorem tyK_64 : tyK Go.Proofs.Try.prog 64 = .st [3, 3] := by kernel_rfl
theorem GIns.of {ys : List D} (h : HasT Go.Proofs.Try.prog 64 ys) : ∃ x : GIns, ys = x.enc ∧ x.wf := by
  have h' := HasT.st_inv h tyK_64
  obtain ⟨a0_, r0, hr0, t0, h0⟩ := h'
  obtain ⟨a1_, r1, hr1, t1, h1⟩ := h0
  simp only [HasTs] at h1
  subst h1
  subst hr1
  subst hr0
  obtain ⟨a0_', rfl, a0_w⟩ := HasT.int_inv t0 tyK_3
  obtain ⟨a1_', rfl, a1_w⟩ := HasT.int_inv t1 tyK_3
  exact ⟨⟨a0_', a1_'⟩, rfl, ⟨a0_w, a1_w⟩⟩
structure GCmd where
  Verb : Int
  Noun : Int
  Second : Int
  Number : Int
  Dir : Int
  deriving DecidableEq
def GCmd.enc (x : GCmd) : List D := [D.v (.int .i64 x.Verb), D.v (.int .i64 x.Noun), D.v (.int .i64 x.Second), D.v (.int .i64 x.Number), D.v (.int .i64 x.Dir)]
@[simp] theorem GCmd.enc_length (x : GCmd) : x.enc.length = 5 := rfl
@[simp] theorem GCmd.enc_0 (x : GCmd) : x.enc[0]? = some (D.v (.int .i64 x.Verb)) := rfl
@[simp] theorem GCmd.encg_0 (x : GCmd) (h : 0 < x.enc.length) : x.enc[0] = D.v (.int .i64 x.Verb) := rfl
@[simp] theorem GCmd.enc_1 (x : GCmd) : x.enc[1]? = some (D.v (.int .i64 x.Noun)) := rfl
@[simp] theorem GCmd.encg_1 (x : GCmd) (h : 1 < x.enc.length) : x.enc[1] = D.v (.int .i64 x.Noun) := rfl
@[simp] theorem GCmd.enc_2 (x : GCmd) : x.enc[2]? = some (D.v (.int .i64 x.Second)) := rfl
@[simp] theorem GCmd.encg_2 (x : GCmd) (h : 2 < x.enc.length) : x.enc[2] = D.v (.int .i64 x.Second) := rfl
@[simp] theorem GCmd.enc_3 (x : GCmd) : x.enc[3]? = some (D.v (.int .i64 x.Number)) := rfl
@[simp] theorem GCmd.encg_3 (x : GCmd) (h : 3 < x.enc.length) : x.enc[3] = D.v (.int .i64 x.Number) := rfl
@[simp] theorem GCmd.enc_4 (x : GCmd) : x.enc[4]? = some (D.v (.int .i64 x.Dir)) := rfl
@[simp] theorem GCmd.encg_4 (x : GCmd) (h : 4 < x.enc.length) : x.enc[4] = D.v (.int .i64 x.Dir) := rfl
@[simp] theorem GCmd.fzV (L : Heap) (x : GCmd) : V.fzs L (x.enc.map V.d) = x.enc.map V.d := by simp [GCmd.enc, V.fzs, V.fz]
@[simp] theorem GCmd.eqV (x y : GCmd) : eqVs (x.enc.map V.d) (y.enc.map V.d) = some (decide (x = y)) := by
  rcases x with ⟨a_0, a_1, a_2, a_3, a_4⟩
  rcases y with ⟨b_0, b_1, b_2, b_3, b_4⟩
  simp only [GCmd.enc, List.map, eqVs, vals, eqVals, eqV1, if_true, Option.some.injEq, bytes_beq]
  rw [Bool.eq_iff_iff]
  simp [and_assoc]
@[simp] theorem GCmd.fitV (x : GCmd) : fitVs [.i .i64, .i .i64, .i .i64, .i .i64, .i .i64] (x.enc.map V.d) = true := by
  simp [GCmd.enc, fitVs, vals, fits, fit1]
def GCmd.zero : GCmd := ⟨0, 0, 0, 0, 0⟩
theorem GCmd.zero_enc : GCmd.zero.enc = [D.v (.int .i64 0), D.v (.int .i64 0), D.v (.int .i64 0), D.v (.int .i64 0), D.v (.int .i64 0)] := rfl
@[simp] theorem GCmd.getZ (o : Option GCmd) : (o.map GCmd.enc).getD [D.v (.int .i64 0), D.v (.int .i64 0), D.v (.int .i64 0), D.v (.int .i64 0), D.v (.int .i64 0)] = (o.getD GCmd.zero).enc := by cases o <;> rfl
@[simp] theorem GCmd.getV (o : Option GCmd) : (o.map (fun x => x.enc.map V.d)).getD [V.d (D.v (.int .i64 0)), V.d (D.v (.int .i64 0)), V.d (D.v (.int .i64 0)), V.d (D.v (.int .i64 0)), V.d (D.v (.int .i64 0))] = ((o.getD GCmd.zero).enc).map V.d := by cases o <;> rfl
theorem GCmd.cellAt (l : List GCmd) (i j : Nat) (z : D) (h : GCmd.zero.enc[j]? = some z) : cellAt (dd (l.map GCmd.enc)) i j [V.d z] = V.d (((l[i]?.getD GCmd.zero).enc[j]?).getD default) := by
  unfold Go.Ab.cellAt
  rw [dd_get, List.getElem?_map]
  cases hl : l[i]? with
  | none => simp [h]
  | some a =>
    have hj := (List.getElem?_eq_some_iff.1 h).1
    have hj' : j < a.enc.length := by rw [GCmd.enc_length] at hj ⊢; exact hj
    simp only [Option.map_some, List.getElem?_map, List.getElem?_eq_getElem hj', Option.getD_some]
@[simp] theorem GCmd.cellAt_0 (l : List GCmd) (i : Nat) : Go.Ab.cellAt (dd (l.map GCmd.enc)) i 0 [V.d (D.v (.int .i64 0))] = V.d (D.v (.int .i64 (l[i]?.getD GCmd.zero).Verb)) := (GCmd.cellAt l i 0 (D.v (.int .i64 0)) rfl).trans (by simp)
@[simp] theorem GCmd.cellAt_1 (l : List GCmd) (i : Nat) : Go.Ab.cellAt (dd (l.map GCmd.enc)) i 1 [V.d (D.v (.int .i64 0))] = V.d (D.v (.int .i64 (l[i]?.getD GCmd.zero).Noun)) := (GCmd.cellAt l i 1 (D.v (.int .i64 0)) rfl).trans (by simp)
@[simp] theorem GCmd.cellAt_2 (l : List GCmd) (i : Nat) : Go.Ab.cellAt (dd (l.map GCmd.enc)) i 2 [V.d (D.v (.int .i64 0))] = V.d (D.v (.int .i64 (l[i]?.getD GCmd.zero).Second)) := (GCmd.cellAt l i 2 (D.v (.int .i64 0)) rfl).trans (by simp)
@[simp] theorem GCmd.cellAt_3 (l : List GCmd) (i : Nat) : Go.Ab.cellAt (dd (l.map GCmd.enc)) i 3 [V.d (D.v (.int .i64 0))] = V.d (D.v (.int .i64 (l[i]?.getD GCmd.zero).Number)) := (GCmd.cellAt l i 3 (D.v (.int .i64 0)) rfl).trans (by simp)
@[simp] theorem GCmd.cellAt_4 (l : List GCmd) (i : Nat) : Go.Ab.cellAt (dd (l.map GCmd.enc)) i 4 [V.d (D.v (.int .i64 0))] = V.d (D.v (.int .i64 (l[i]?.getD GCmd.zero).Dir)) := (GCmd.cellAt l i 4 (D.v (.int .i64 0)) rfl).trans (by simp)
@[simp] theorem GCmd.aggAt (l : List GCmd) (i : Nat) : Go.Ab.aggAt (dd (l.map GCmd.enc)) i 0 5 [V.d (D.v (.int .i64 0)), V.d (D.v (.int .i64 0)), V.d (D.v (.int .i64 0)), V.d (D.v (.int .i64 0)), V.d (D.v (.int .i64 0))] = (l[i]?.getD GCmd.zero).enc.map V.d := by
  unfold Go.Ab.aggAt
  rw [dd_get, List.getElem?_map]
  cases l[i]? with
  | none => rfl
  | some x => simp; cases x; rfl
@[simp] theorem GCmd.dropAll (x : GCmd) : List.drop 5 x.enc = [] := rfl
@[simp] theorem GCmd.dropAllv (x : GCmd) : List.drop 5 (x.enc.map V.d) = [] := rfl
@[simp] theorem GCmd.enc_all (x : GCmd) : x.enc.take 5 = x.enc := rfl
@[simp] theorem GCmd.enc_allv (x : GCmd) : List.take 5 (x.enc.map V.d) = x.enc.map V.d := rfl
def GCmd.wf (x : GCmd) : Prop := inR .i64 x.Verb ∧ inR .i64 x.Noun ∧ inR .i64 x.Second ∧ inR .i64 x.Number ∧ inR .i64 x.Dir
theorem GCmd.wf_Verb {x : GCmd} (h : x.wf) : inR .i64 x.Verb := h.1
theorem GCmd.wf_Noun {x : GCmd} (h : x.wf) : inR .i64 x.Noun := h.2.1
theorem GCmd.wf_Second {x : GCmd} (h : x.wf) : inR .i64 x.Second := h.2.2.1
theorem GCmd.wf_Number {x : GCmd} (h : x.wf) : inR .i64 x.Number := h.2.2.2.1
theorem GCmd.wf_Dir {x : GCmd} (h : x.wf) : inR .i64 x.Dir := h.2.2.2.2
theorem tyK_47 : tyK Go.Proofs.Try.prog 47 = .st [3, 3, 3, 3, 3] := by kernel_rfl
theorem GCmd.of {ys : List D} (h : HasT Go.Proofs.Try.prog 47 ys) : ∃ x : GCmd, ys = x.enc ∧ x.wf := by
  have h' := HasT.st_inv h tyK_47
  obtain ⟨a0_, r0, hr0, t0, h0⟩ := h'
  obtain ⟨a1_, r1, hr1, t1, h1⟩ := h0
  obtain ⟨a2_, r2, hr2, t2, h2⟩ := h1
  obtain ⟨a3_, r3, hr3, t3, h3⟩ := h2
  obtain ⟨a4_, r4, hr4, t4, h4⟩ := h3
  simp only [HasTs] at h4
  subst h4
  subst hr4
  subst hr3
  subst hr2
  subst hr1
  subst hr0
  obtain ⟨a0_', rfl, a0_w⟩ := HasT.int_inv t0 tyK_3
  obtain ⟨a1_', rfl, a1_w⟩ := HasT.int_inv t1 tyK_3
  obtain ⟨a2_', rfl, a2_w⟩ := HasT.int_inv t2 tyK_3
  obtain ⟨a3_', rfl, a3_w⟩ := HasT.int_inv t3 tyK_3
  obtain ⟨a4_', rfl, a4_w⟩ := HasT.int_inv t4 tyK_3
  exact ⟨⟨a0_', a1_', a2_', a3_', a4_'⟩, rfl, ⟨a0_w, a1_w, a2_w, a3_w, a4_w⟩⟩
structure GEdge where
  From : Int
  To : Int
  Cmd : GCmd
  deriving DecidableEq
def GEdge.enc (x : GEdge) : List D := [D.v (.int .i64 x.From), D.v (.int .i64 x.To), D.v (.int .i64 x.Cmd.Verb), D.v (.int .i64 x.Cmd.Noun), D.v (.int .i64 x.Cmd.Second), D.v (.int .i64 x.Cmd.Number), D.v (.int .i64 x.Cmd.Dir)]
@[simp] theorem GEdge.enc_length (x : GEdge) : x.enc.length = 7 := rfl
@[simp] theorem GEdge.enc_0 (x : GEdge) : x.enc[0]? = some (D.v (.int .i64 x.From)) := rfl
@[simp] theorem GEdge.encg_0 (x : GEdge) (h : 0 < x.enc.length) : x.enc[0] = D.v (.int .i64 x.From) := rfl
@[simp] theorem GEdge.enc_1 (x : GEdge) : x.enc[1]? = some (D.v (.int .i64 x.To)) := rfl
@[simp] theorem GEdge.encg_1 (x : GEdge) (h : 1 < x.enc.length) : x.enc[1] = D.v (.int .i64 x.To) := rfl
@[simp] theorem GEdge.enc_2 (x : GEdge) : x.enc[2]? = some (D.v (.int .i64 x.Cmd.Verb)) := rfl
@[simp] theorem GEdge.encg_2 (x : GEdge) (h : 2 < x.enc.length) : x.enc[2] = D.v (.int .i64 x.Cmd.Verb) := rfl
@[simp] theorem GEdge.enc_3 (x : GEdge) : x.enc[3]? = some (D.v (.int .i64 x.Cmd.Noun)) := rfl
@[simp] theorem GEdge.encg_3 (x : GEdge) (h : 3 < x.enc.length) : x.enc[3] = D.v (.int .i64 x.Cmd.Noun) := rfl
@[simp] theorem GEdge.enc_4 (x : GEdge) : x.enc[4]? = some (D.v (.int .i64 x.Cmd.Second)) := rfl
@[simp] theorem GEdge.encg_4 (x : GEdge) (h : 4 < x.enc.length) : x.enc[4] = D.v (.int .i64 x.Cmd.Second) := rfl
@[simp] theorem GEdge.enc_5 (x : GEdge) : x.enc[5]? = some (D.v (.int .i64 x.Cmd.Number)) := rfl
@[simp] theorem GEdge.encg_5 (x : GEdge) (h : 5 < x.enc.length) : x.enc[5] = D.v (.int .i64 x.Cmd.Number) := rfl
@[simp] theorem GEdge.enc_6 (x : GEdge) : x.enc[6]? = some (D.v (.int .i64 x.Cmd.Dir)) := rfl
@[simp] theorem GEdge.encg_6 (x : GEdge) (h : 6 < x.enc.length) : x.enc[6] = D.v (.int .i64 x.Cmd.Dir) := rfl
@[simp] theorem GEdge.fzV (L : Heap) (x : GEdge) : V.fzs L (x.enc.map V.d) = x.enc.map V.d := by simp [GEdge.enc, V.fzs, V.fz]
@[simp] theorem GEdge.eqV (x y : GEdge) : eqVs (x.enc.map V.d) (y.enc.map V.d) = some (decide (x = y)) := by
  rcases x with ⟨a_0, a_1, ⟨a_2_0, a_2_1, a_2_2, a_2_3, a_2_4⟩⟩
  rcases y with ⟨b_0, b_1, ⟨b_2_0, b_2_1, b_2_2, b_2_3, b_2_4⟩⟩
  simp only [GEdge.enc, List.map, eqVs, vals, eqVals, eqV1, if_true, Option.some.injEq, bytes_beq]
  rw [Bool.eq_iff_iff]
  simp [and_assoc]
@[simp] theorem GEdge.fitV (x : GEdge) : fitVs [.i .i64, .i .i64, .i .i64, .i .i64, .i .i64, .i .i64, .i .i64] (x.enc.map V.d) = true := by
  simp [GEdge.enc, fitVs, vals, fits, fit1]
def GEdge.zero : GEdge := ⟨0, 0, GCmd.zero⟩
theorem GEdge.zero_enc : GEdge.zero.enc = [D.v (.int .i64 0), D.v (.int .i64 0), D.v (.int .i64 0), D.v (.int .i64 0), D.v (.int .i64 0), D.v (.int .i64 0), D.v (.int .i64 0)] := rfl
@[simp] theorem GEdge.getZ (o : Option GEdge) : (o.map GEdge.enc).getD [D.v (.int .i64 0), D.v (.int .i64 0), D.v (.int .i64 0), D.v (.int .i64 0), D.v (.int .i64 0), D.v (.int .i64 0), D.v (.int .i64 0)] = (o.getD GEdge.zero).enc := by cases o <;> rfl
@[simp] theorem GEdge.getV (o : Option GEdge) : (o.map (fun x => x.enc.map V.d)).getD [V.d (D.v (.int .i64 0)), V.d (D.v (.int .i64 0)), V.d (D.v (.int .i64 0)), V.d (D.v (.int .i64 0)), V.d (D.v (.int .i64 0)), V.d (D.v (.int .i64 0)), V.d (D.v (.int .i64 0))] = ((o.getD GEdge.zero).enc).map V.d := by cases o <;> rfl
theorem GEdge.cellAt (l : List GEdge) (i j : Nat) (z : D) (h : GEdge.zero.enc[j]? = some z) : cellAt (dd (l.map GEdge.enc)) i j [V.d z] = V.d (((l[i]?.getD GEdge.zero).enc[j]?).getD default) := by
  unfold Go.Ab.cellAt
  rw [dd_get, List.getElem?_map]
  cases hl : l[i]? with
  | none => simp [h]
  | some a =>
    have hj := (List.getElem?_eq_some_iff.1 h).1
    have hj' : j < a.enc.length := by rw [GEdge.enc_length] at hj ⊢; exact hj
    simp only [Option.map_some, List.getElem?_map, List.getElem?_eq_getElem hj', Option.getD_some]
@[simp] theorem GEdge.cellAt_0 (l : List GEdge) (i : Nat) : Go.Ab.cellAt (dd (l.map GEdge.enc)) i 0 [V.d (D.v (.int .i64 0))] = V.d (D.v (.int .i64 (l[i]?.getD GEdge.zero).From)) := (GEdge.cellAt l i 0 (D.v (.int .i64 0)) rfl).trans (by simp)
@[simp] theorem GEdge.cellAt_1 (l : List GEdge) (i : Nat) : Go.Ab.cellAt (dd (l.map GEdge.enc)) i 1 [V.d (D.v (.int .i64 0))] = V.d (D.v (.int .i64 (l[i]?.getD GEdge.zero).To)) := (GEdge.cellAt l i 1 (D.v (.int .i64 0)) rfl).trans (by simp)
@[simp] theorem GEdge.cellAt_2 (l : List GEdge) (i : Nat) : Go.Ab.cellAt (dd (l.map GEdge.enc)) i 2 [V.d (D.v (.int .i64 0))] = V.d (D.v (.int .i64 (l[i]?.getD GEdge.zero).Cmd.Verb)) := (GEdge.cellAt l i 2 (D.v (.int .i64 0)) rfl).trans (by simp)
@[simp] theorem GEdge.cellAt_3 (l : List GEdge) (i : Nat) : Go.Ab.cellAt (dd (l.map GEdge.enc)) i 3 [V.d (D.v (.int .i64 0))] = V.d (D.v (.int .i64 (l[i]?.getD GEdge.zero).Cmd.Noun)) := (GEdge.cellAt l i 3 (D.v (.int .i64 0)) rfl).trans (by simp)
@[simp] theorem GEdge.cellAt_4 (l : List GEdge) (i : Nat) : Go.Ab.cellAt (dd (l.map GEdge.enc)) i 4 [V.d (D.v (.int .i64 0))] = V.d (D.v (.int .i64 (l[i]?.getD GEdge.zero).Cmd.Second)) := (GEdge.cellAt l i 4 (D.v (.int .i64 0)) rfl).trans (by simp)
@[simp] theorem GEdge.cellAt_5 (l : List GEdge) (i : Nat) : Go.Ab.cellAt (dd (l.map GEdge.enc)) i 5 [V.d (D.v (.int .i64 0))] = V.d (D.v (.int .i64 (l[i]?.getD GEdge.zero).Cmd.Number)) := (GEdge.cellAt l i 5 (D.v (.int .i64 0)) rfl).trans (by simp)
@[simp] theorem GEdge.cellAt_6 (l : List GEdge) (i : Nat) : Go.Ab.cellAt (dd (l.map GEdge.enc)) i 6 [V.d (D.v (.int .i64 0))] = V.d (D.v (.int .i64 (l[i]?.getD GEdge.zero).Cmd.Dir)) := (GEdge.cellAt l i 6 (D.v (.int .i64 0)) rfl).trans (by simp)
@[simp] theorem GEdge.aggAt (l : List GEdge) (i : Nat) : Go.Ab.aggAt (dd (l.map GEdge.enc)) i 0 7 [V.d (D.v (.int .i64 0)), V.d (D.v (.int .i64 0)), V.d (D.v (.int .i64 0)), V.d (D.v (.int .i64 0)), V.d (D.v (.int .i64 0)), V.d (D.v (.int .i64 0)), V.d (D.v (.int .i64 0))] = (l[i]?.getD GEdge.zero).enc.map V.d := by
  unfold Go.Ab.aggAt
  rw [dd_get, List.getElem?_map]
  cases l[i]? with
  | none => rfl
  | some x => simp; cases x; rfl
@[simp] theorem GEdge.dropAll (x : GEdge) : List.drop 7 x.enc = [] := rfl
@[simp] theorem GEdge.dropAllv (x : GEdge) : List.drop 7 (x.enc.map V.d) = [] := rfl
@[simp] theorem GEdge.enc_all (x : GEdge) : x.enc.take 7 = x.enc := rfl
@[simp] theorem GEdge.enc_allv (x : GEdge) : List.take 7 (x.enc.map V.d) = x.enc.map V.d := rfl
@[simp] theorem GEdge.sub_Cmd (x : GEdge) : List.take 5 (List.drop 2 x.enc) = x.Cmd.enc := rfl
@[simp] theorem GEdge.subv_Cmd (x : GEdge) : List.take 5 (List.drop 2 (x.enc.map V.d)) = x.Cmd.enc.map V.d := rfl
@[simp] theorem GEdge.tailv_Cmd (x : GEdge) : List.drop 2 (x.enc.map V.d) = x.Cmd.enc.map V.d := rfl
@[simp] theorem GEdge.tail_Cmd (x : GEdge) : List.drop 2 x.enc = x.Cmd.enc := rfl
def GEdge.wf (x : GEdge) : Prop := inR .i64 x.From ∧ inR .i64 x.To ∧ x.Cmd.wf
theorem GEdge.wf_From {x : GEdge} (h : x.wf) : inR .i64 x.From := h.1
theorem GEdge.wf_To {x : GEdge} (h : x.wf) : inR .i64 x.To := h.2.1
theorem GEdge.wf_Cmd {x : GEdge} (h : x.wf) : x.Cmd.wf := h.2.2
theorem tyK_49 : tyK Go.Proofs.Try.prog 49 = .st [3, 3, 47] := by kernel_rfl
theorem GEdge.of {ys : List D} (h : HasT Go.Proofs.Try.prog 49 ys) : ∃ x : GEdge, ys = x.enc ∧ x.wf := by
  have h' := HasT.st_inv h tyK_49
  obtain ⟨a0_, r0, hr0, t0, h0⟩ := h'
  obtain ⟨a1_, r1, hr1, t1, h1⟩ := h0
  obtain ⟨a2_, r2, hr2, t2, h2⟩ := h1
  simp only [HasTs] at h2
  subst h2
  subst hr2
  subst hr1
  subst hr0
  obtain ⟨a0_', rfl, a0_w⟩ := HasT.int_inv t0 tyK_3
  obtain ⟨a1_', rfl, a1_w⟩ := HasT.int_inv t1 tyK_3
  obtain ⟨a2_', rfl, a2_w⟩ := GCmd.of t2
  exact ⟨⟨a0_', a1_', a2_'⟩, rfl, ⟨a0_w, a1_w, a2_w⟩⟩
structure Gstep where
  far : Int
  from_ : Int
  dir : Int
  deriving DecidableEq
def Gstep.enc (x : Gstep) : List D := [D.v (.int .i64 x.far), D.v (.int .i64 x.from_), D.v (.int .i64 x.dir)]
@[simp] theorem Gstep.enc_length (x : Gstep) : x.enc.length = 3 := rfl
@[simp] theorem Gstep.enc_0 (x : Gstep) : x.enc[0]? = some (D.v (.int .i64 x.far)) := rfl
@[simp] theorem Gstep.encg_0 (x : Gstep) (h : 0 < x.enc.length) : x.enc[0] = D.v (.int .i64 x.far) := rfl
@[simp] theorem Gstep.enc_1 (x : Gstep) : x.enc[1]? = some (D.v (.int .i64 x.from_)) := rfl
@[simp] theorem Gstep.encg_1 (x : Gstep) (h : 1 < x.enc.length) : x.enc[1] = D.v (.int .i64 x.from_) := rfl
@[simp] theorem Gstep.enc_2 (x : Gstep) : x.enc[2]? = some (D.v (.int .i64 x.dir)) := rfl
@[simp] theorem Gstep.encg_2 (x : Gstep) (h : 2 < x.enc.length) : x.enc[2] = D.v (.int .i64 x.dir) := rfl
@[simp] theorem Gstep.fzV (L : Heap) (x : Gstep) : V.fzs L (x.enc.map V.d) = x.enc.map V.d := by simp [Gstep.enc, V.fzs, V.fz]
@[simp] theorem Gstep.eqV (x y : Gstep) : eqVs (x.enc.map V.d) (y.enc.map V.d) = some (decide (x = y)) := by
  rcases x with ⟨a_0, a_1, a_2⟩
  rcases y with ⟨b_0, b_1, b_2⟩
  simp only [Gstep.enc, List.map, eqVs, vals, eqVals, eqV1, if_true, Option.some.injEq, bytes_beq]
  rw [Bool.eq_iff_iff]
  simp [and_assoc]
@[simp] theorem Gstep.fitV (x : Gstep) : fitVs [.i .i64, .i .i64, .i .i64] (x.enc.map V.d) = true := by
  simp [Gstep.enc, fitVs, vals, fits, fit1]
def Gstep.zero : Gstep := ⟨0, 0, 0⟩
theorem Gstep.zero_enc : Gstep.zero.enc = [D.v (.int .i64 0), D.v (.int .i64 0), D.v (.int .i64 0)] := rfl
@[simp] theorem Gstep.getZ (o : Option Gstep) : (o.map Gstep.enc).getD [D.v (.int .i64 0), D.v (.int .i64 0), D.v (.int .i64 0)] = (o.getD Gstep.zero).enc := by cases o <;> rfl
@[simp] theorem Gstep.getV (o : Option Gstep) : (o.map (fun x => x.enc.map V.d)).getD [V.d (D.v (.int .i64 0)), V.d (D.v (.int .i64 0)), V.d (D.v (.int .i64 0))] = ((o.getD Gstep.zero).enc).map V.d := by cases o <;> rfl
theorem Gstep.cellAt (l : List Gstep) (i j : Nat) (z : D) (h : Gstep.zero.enc[j]? = some z) : cellAt (dd (l.map Gstep.enc)) i j [V.d z] = V.d (((l[i]?.getD Gstep.zero).enc[j]?).getD default) := by
  unfold Go.Ab.cellAt
  rw [dd_get, List.getElem?_map]
  cases hl : l[i]? with
  | none => simp [h]
  | some a =>
    have hj := (List.getElem?_eq_some_iff.1 h).1
    have hj' : j < a.enc.length := by rw [Gstep.enc_length] at hj ⊢; exact hj
    simp only [Option.map_some, List.getElem?_map, List.getElem?_eq_getElem hj', Option.getD_some]
@[simp] theorem Gstep.cellAt_0 (l : List Gstep) (i : Nat) : Go.Ab.cellAt (dd (l.map Gstep.enc)) i 0 [V.d (D.v (.int .i64 0))] = V.d (D.v (.int .i64 (l[i]?.getD Gstep.zero).far)) := (Gstep.cellAt l i 0 (D.v (.int .i64 0)) rfl).trans (by simp)
@[simp] theorem Gstep.cellAt_1 (l : List Gstep) (i : Nat) : Go.Ab.cellAt (dd (l.map Gstep.enc)) i 1 [V.d (D.v (.int .i64 0))] = V.d (D.v (.int .i64 (l[i]?.getD Gstep.zero).from_)) := (Gstep.cellAt l i 1 (D.v (.int .i64 0)) rfl).trans (by simp)
@[simp] theorem Gstep.cellAt_2 (l : List Gstep) (i : Nat) : Go.Ab.cellAt (dd (l.map Gstep.enc)) i 2 [V.d (D.v (.int .i64 0))] = V.d (D.v (.int .i64 (l[i]?.getD Gstep.zero).dir)) := (Gstep.cellAt l i 2 (D.v (.int .i64 0)) rfl).trans (by simp)
@[simp] theorem Gstep.aggAt (l : List Gstep) (i : Nat) : Go.Ab.aggAt (dd (l.map Gstep.enc)) i 0 3 [V.d (D.v (.int .i64 0)), V.d (D.v (.int .i64 0)), V.d (D.v (.int .i64 0))] = (l[i]?.getD Gstep.zero).enc.map V.d := by
  unfold Go.Ab.aggAt
  rw [dd_get, List.getElem?_map]
  cases l[i]? with
  | none => rfl
  | some x => simp; cases x; rfl
@[simp] theorem Gstep.dropAll (x : Gstep) : List.drop 3 x.enc = [] := rfl
@[simp] theorem Gstep.dropAllv (x : Gstep) : List.drop 3 (x.enc.map V.d) = [] := rfl
@[simp] theorem Gstep.enc_all (x : Gstep) : x.enc.take 3 = x.enc := rfl
@[simp] theorem Gstep.enc_allv (x : Gstep) : List.take 3 (x.enc.map V.d) = x.enc.map V.d := rfl
def Gstep.wf (x : Gstep) : Prop := inR .i64 x.far ∧ inR .i64 x.from_ ∧ inR .i64 x.dir
theorem Gstep.wf_far {x : Gstep} (h : x.wf) : inR .i64 x.far := h.1
theorem Gstep.wf_from_ {x : Gstep} (h : x.wf) : inR .i64 x.from_ := h.2.1
theorem Gstep.wf_dir {x : Gstep} (h : x.wf) : inR .i64 x.dir := h.2.2
theorem tyK_73 : tyK Go.Proofs.Try.prog 73 = .st [3, 3, 3] := by kernel_rfl
theorem Gstep.of {ys : List D} (h : HasT Go.Proofs.Try.prog 73 ys) : ∃ x : Gstep, ys = x.enc ∧ x.wf := by
  have h' := HasT.st_inv h tyK_73
  obtain ⟨a0_, r0, hr0, t0, h0⟩ := h'
  obtain ⟨a1_, r1, hr1, t1, h1⟩ := h0
  obtain ⟨a2_, r2, hr2, t2, h2⟩ := h1
  simp only [HasTs] at h2
  subst h2
  subst hr2
  subst hr1
  subst hr0
  obtain ⟨a0_', rfl, a0_w⟩ := HasT.int_inv t0 tyK_3
  obtain ⟨a1_', rfl, a1_w⟩ := HasT.int_inv t1 tyK_3
  obtain ⟨a2_', rfl, a2_w⟩ := HasT.int_inv t2 tyK_3
  exact ⟨⟨a0_', a1_', a2_'⟩, rfl, ⟨a0_w, a1_w, a2_w⟩⟩
structure Gwriter where
  l : (List GIns)
  labels : Int
  deriving DecidableEq
def Gwriter.enc (x : Gwriter) : List D := [D.sl (x.l.map GIns.enc), D.v (.int .i64 x.labels)]
@[simp] theorem Gwriter.enc_length (x : Gwriter) : x.enc.length = 2 := rfl
@[simp] theorem Gwriter.enc_0 (x : Gwriter) : x.enc[0]? = some (D.sl (x.l.map GIns.enc)) := rfl
@[simp] theorem Gwriter.encg_0 (x : Gwriter) (h : 0 < x.enc.length) : x.enc[0] = D.sl (x.l.map GIns.enc) := rfl
@[simp] theorem Gwriter.enc_1 (x : Gwriter) : x.enc[1]? = some (D.v (.int .i64 x.labels)) := rfl
@[simp] theorem Gwriter.encg_1 (x : Gwriter) (h : 1 < x.enc.length) : x.enc[1] = D.v (.int .i64 x.labels) := rfl
@[simp] theorem Gwriter.fzV (L : Heap) (x : Gwriter) : V.fzs L (x.enc.map V.d) = x.enc.map V.d := by simp [Gwriter.enc, V.fzs, V.fz]
def Gwriter.zero : Gwriter := ⟨[], 0⟩
theorem Gwriter.zero_enc : Gwriter.zero.enc = [D.sl [], D.v (.int .i64 0)] := rfl
@[simp] theorem Gwriter.getZ (o : Option Gwriter) : (o.map Gwriter.enc).getD [D.sl [], D.v (.int .i64 0)] = (o.getD Gwriter.zero).enc := by cases o <;> rfl
@[simp] theorem Gwriter.getV (o : Option Gwriter) : (o.map (fun x => x.enc.map V.d)).getD [V.d (D.sl []), V.d (D.v (.int .i64 0))] = ((o.getD Gwriter.zero).enc).map V.d := by cases o <;> rfl
theorem Gwriter.cellAt (l : List Gwriter) (i j : Nat) (z : D) (h : Gwriter.zero.enc[j]? = some z) : cellAt (dd (l.map Gwriter.enc)) i j [V.d z] = V.d (((l[i]?.getD Gwriter.zero).enc[j]?).getD default) := by
  unfold Go.Ab.cellAt
  rw [dd_get, List.getElem?_map]
  cases hl : l[i]? with
  | none => simp [h]
  | some a =>
    have hj := (List.getElem?_eq_some_iff.1 h).1
    have hj' : j < a.enc.length := by rw [Gwriter.enc_length] at hj ⊢; exact hj
    simp only [Option.map_some, List.getElem?_map, List.getElem?_eq_getElem hj', Option.getD_some]
@[simp] theorem Gwriter.cellAt_0 (l : List Gwriter) (i : Nat) : Go.Ab.cellAt (dd (l.map Gwriter.enc)) i 0 [V.d (D.sl [])] = V.d (D.sl ((l[i]?.getD Gwriter.zero).l.map GIns.enc)) := (Gwriter.cellAt l i 0 (D.sl []) rfl).trans (by simp)
@[simp] theorem Gwriter.cellAt_1 (l : List Gwriter) (i : Nat) : Go.Ab.cellAt (dd (l.map Gwriter.enc)) i 1 [V.d (D.v (.int .i64 0))] = V.d (D.v (.int .i64 (l[i]?.getD Gwriter.zero).labels)) := (Gwriter.cellAt l i 1 (D.v (.int .i64 0)) rfl).trans (by simp)
@[simp] theorem Gwriter.aggAt (l : List Gwriter) (i : Nat) : Go.Ab.aggAt (dd (l.map Gwriter.enc)) i 0 2 [V.d (D.sl []), V.d (D.v (.int .i64 0))] = (l[i]?.getD Gwriter.zero).enc.map V.d := by
  unfold Go.Ab.aggAt
  rw [dd_get, List.getElem?_map]
  cases l[i]? with
  | none => rfl
  | some x => simp; cases x; rfl
@[simp] theorem Gwriter.dropAll (x : Gwriter) : List.drop 2 x.enc = [] := rfl
@[simp] theorem Gwriter.dropAllv (x : Gwriter) : List.drop 2 (x.enc.map V.d) = [] := rfl
@[simp] theorem Gwriter.enc_all (x : Gwriter) : x.enc.take 2 = x.enc := rfl
@[simp] theorem Gwriter.enc_allv (x : Gwriter) : List.take 2 (x.enc.map V.d) = x.enc.map V.d := rfl
def Gwriter.wf (x : Gwriter) : Prop := x.l.length * 16 ≤ 140737488351232 ∧ (∀ y0 : GIns, y0 ∈ x.l → y0.wf) ∧ inR .i64 x.labels
theorem Gwriter.wl_l {x : Gwriter} (h : x.wf) : x.l.length * 16 ≤ 140737488351232 := h.1
theorem Gwriter.wf_l {x : Gwriter} (h : x.wf) : (∀ y0 : GIns, y0 ∈ x.l → y0.wf) := h.2.1
theorem Gwriter.wf_labels {x : Gwriter} (h : x.wf) : inR .i64 x.labels := h.2.2
theorem tyK_97 : tyK Go.Proofs.Try.prog 97 = .st [57, 3] := by kernel_rfl
theorem tyK_57 : tyK Go.Proofs.Try.prog 57 = .sl 64 16 := by kernel_rfl
theorem Gwriter.of {ys : List D} (h : HasT Go.Proofs.Try.prog 97 ys) : ∃ x : Gwriter, ys = x.enc ∧ x.wf := by
  have h' := HasT.st_inv h tyK_97
  obtain ⟨a0_, r0, hr0, t0, h0⟩ := h'
  obtain ⟨a1_, r1, hr1, t1, h1⟩ := h0
  simp only [HasTs] at h1
  subst h1
  subst hr1
  subst hr0
  obtain ⟨a0_0, rfl, a0_h, a0_l, a0_w⟩ := HasT.sl_inv t0 tyK_57
  obtain ⟨a0_', rfl, a0_a⟩ := map_of (f := GIns.enc) (p := fun (y : GIns) => y.wf) (fun a0_e hx => by
    have a0_q := a0_h a0_e hx
    obtain ⟨a0_e', rfl, a0_ew⟩ := GIns.of a0_q
    exact ⟨a0_e', rfl, a0_ew⟩)
  obtain ⟨a1_', rfl, a1_w⟩ := HasT.int_inv t1 tyK_3
  exact ⟨⟨a0_', a1_'⟩, rfl, ⟨(by simpa using a0_w), a0_a, a1_w⟩⟩
end Go.Ab
