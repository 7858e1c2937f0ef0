/-
  The texts Gs Q Lp Wr Fam Pn Rf Rg Rh Ri Sc, one behind the other.
-/
import Derived.Test.YticchnalleplcaaMg3
import Derived.RangeFuncIn
import Derived.Lib.Builder
import Derived.Laws.Externs
/-
  The structs of this seat's program as structures, by program (gsatool.py).
-/
set_option linter.unusedSimpArgs false
set_option linter.unusedVariables false
namespace Go.Ab
structure GWay where
  Dir : Int
  To : Int
  When : Int
  Else : Int
  deriving DecidableEq
def GWay.enc (x : GWay) : List D := [D.v (.int .i64 x.Dir), D.v (.int .i64 x.To), D.v (.int .i64 x.When), D.v (.int .i64 x.Else)]
@[simp] theorem GWay.enc_length (x : GWay) : x.enc.length = 4 := rfl
@[simp] theorem GWay.enc_0 (x : GWay) : x.enc[0]? = some (D.v (.int .i64 x.Dir)) := rfl
@[simp] theorem GWay.encg_0 (x : GWay) (h : 0 < x.enc.length) : x.enc[0] = D.v (.int .i64 x.Dir) := rfl
@[simp] theorem GWay.enc_1 (x : GWay) : x.enc[1]? = some (D.v (.int .i64 x.To)) := rfl
@[simp] theorem GWay.encg_1 (x : GWay) (h : 1 < x.enc.length) : x.enc[1] = D.v (.int .i64 x.To) := rfl
@[simp] theorem GWay.enc_2 (x : GWay) : x.enc[2]? = some (D.v (.int .i64 x.When)) := rfl
@[simp] theorem GWay.encg_2 (x : GWay) (h : 2 < x.enc.length) : x.enc[2] = D.v (.int .i64 x.When) := rfl
@[simp] theorem GWay.enc_3 (x : GWay) : x.enc[3]? = some (D.v (.int .i64 x.Else)) := rfl
@[simp] theorem GWay.encg_3 (x : GWay) (h : 3 < x.enc.length) : x.enc[3] = D.v (.int .i64 x.Else) := rfl
@[simp] theorem GWay.fzV (L : Heap) (x : GWay) : V.fzs L (x.enc.map V.d) = x.enc.map V.d := by simp [GWay.enc, V.fzs, V.fz]
@[simp] theorem GWay.eqV (x y : GWay) : eqVs (x.enc.map V.d) (y.enc.map V.d) = some (decide (x = y)) := by
  rcases x with ⟨a_0, a_1, a_2, a_3⟩
  rcases y with ⟨b_0, b_1, b_2, b_3⟩
  simp only [GWay.enc, List.map, eqVs, vals, eqVals, eqV1, if_true, Option.some.injEq, bytes_beq]
  rw [Bool.eq_iff_iff]
  simp [and_assoc]
@[simp] theorem GWay.fitV (x : GWay) : fitVs [.i .i64, .i .i64, .i .i64, .i .i64] (x.enc.map V.d) = true := by
  simp [GWay.enc, fitVs, vals, fits, fit1]
def GWay.zero : GWay := ⟨0, 0, 0, 0⟩
theorem GWay.zero_enc : GWay.zero.enc = [D.v (.int .i64 0), D.v (.int .i64 0), D.v (.int .i64 0), D.v (.int .i64 0)] := rfl
@[simp] theorem GWay.getZ (o : Option GWay) : (o.map GWay.enc).getD [D.v (.int .i64 0), D.v (.int .i64 0), D.v (.int .i64 0), D.v (.int .i64 0)] = (o.getD GWay.zero).enc := by cases o <;> rfl
@[simp] theorem GWay.getV (o : Option GWay) : (o.map (fun x => x.enc.map V.d)).getD [V.d (D.v (.int .i64 0)), V.d (D.v (.int .i64 0)), V.d (D.v (.int .i64 0)), V.d (D.v (.int .i64 0))] = ((o.getD GWay.zero).enc).map V.d := by cases o <;> rfl
theorem GWay.cellAt (l : List GWay) (i j : Nat) (z : D) (h : GWay.zero.enc[j]? = some z) : cellAt (dd (l.map GWay.enc)) i j [V.d z] = V.d (((l[i]?.getD GWay.zero).enc[j]?).getD default) := by
  unfold Go.Ab.cellAt
  rw [dd_get, List.getElem?_map]
  cases hl : l[i]? with
  | none => simp [h]
  | some a =>
    have hj := (List.getElem?_eq_some_iff.1 h).1
    have hj' : j < a.enc.length := by rw [GWay.enc_length] at hj ⊢; exact hj
    simp only [Option.map_some, List.getElem?_map, List.getElem?_eq_getElem hj', Option.getD_some]
@[simp] theorem GWay.cellAt_0 (l : List GWay) (i : Nat) : Go.Ab.cellAt (dd (l.map GWay.enc)) i 0 [V.d (D.v (.int .i64 0))] = V.d (D.v (.int .i64 (l[i]?.getD GWay.zero).Dir)) := (GWay.cellAt l i 0 (D.v (.int .i64 0)) rfl).trans (by simp)
@[simp] theorem GWay.cellAt_1 (l : List GWay) (i : Nat) : Go.Ab.cellAt (dd (l.map GWay.enc)) i 1 [V.d (D.v (.int .i64 0))] = V.d (D.v (.int .i64 (l[i]?.getD GWay.zero).To)) := (GWay.cellAt l i 1 (D.v (.int .i64 0)) rfl).trans (by simp)
@[simp] theorem GWay.cellAt_2 (l : List GWay) (i : Nat) : Go.Ab.cellAt (dd (l.map GWay.enc)) i 2 [V.d (D.v (.int .i64 0))] = V.d (D.v (.int .i64 (l[i]?.getD GWay.zero).When)) := (GWay.cellAt l i 2 (D.v (.int .i64 0)) rfl).trans (by simp)
@[simp] theorem GWay.cellAt_3 (l : List GWay) (i : Nat) : Go.Ab.cellAt (dd (l.map GWay.enc)) i 3 [V.d (D.v (.int .i64 0))] = V.d (D.v (.int .i64 (l[i]?.getD GWay.zero).Else)) := (GWay.cellAt l i 3 (D.v (.int .i64 0)) rfl).trans (by simp)
@[simp] theorem GWay.aggAt (l : List GWay) (i : Nat) : Go.Ab.aggAt (dd (l.map GWay.enc)) i 0 4 [V.d (D.v (.int .i64 0)), V.d (D.v (.int .i64 0)), V.d (D.v (.int .i64 0)), V.d (D.v (.int .i64 0))] = (l[i]?.getD GWay.zero).enc.map V.d := by
  unfold Go.Ab.aggAt
  rw [dd_get, List.getElem?_map]
  cases l[i]? with
  | none => rfl
  | some x => simp; cases x; rfl
@[simp] theorem GWay.dropAll (x : GWay) : List.drop 4 x.enc = [] := rfl
@[simp] theorem GWay.dropAllv (x : GWay) : List.drop 4 (x.enc.map V.d) = [] := rfl
@[simp] theorem GWay.enc_all (x : GWay) : x.enc.take 4 = x.enc := rfl
@[simp] theorem GWay.enc_allv (x : GWay) : List.take 4 (x.enc.map V.d) = x.enc.map V.d := rfl
def GWay.wf (x : GWay) : Prop := inR .i64 x.Dir ∧ inR .i64 x.To ∧ inR .i64 x.When ∧ inR .i64 x.Else
theorem GWay.wf_Dir {x : GWay} (h : x.wf) : inR .i64 x.Dir := h.1
theorem GWay.wf_To {x : GWay} (h : x.wf) : inR .i64 x.To := h.2.1
theorem GWay.wf_When {x : GWay} (h : x.wf) : inR .i64 x.When := h.2.2.1
theorem GWay.wf_Else {x : GWay} (h : x.wf) : inR .i64 x.Else := h.2.2.2
theorem tyK_40 : tyK Go.Proofs.Try.prog 40 = .st [3, 3, 3, 3] := by kernel_rfl
theorem tyK_3 : tyK Go.Proofs.Try.prog 3 = .int .i64 := by kernel_rfl
theorem GWay.of {ys : List D} (h : HasT Go.Proofs.Try.prog 40 ys) : ∃ x : GWay, ys = x.enc ∧ x.wf := by
  have h' := HasT.st_inv h tyK_40
  obtain ⟨a0_, r0, hr0, t0, h0⟩ := h'
  obtain ⟨a1_, r1, hr1, t1, h1⟩ := h0
  obtain ⟨a2_, r2, hr2, t2, h2⟩ := h1
  obtain ⟨a3_, r3, hr3, t3, h3⟩ := h2
  simp only [HasTs] at h3
  subst h3
  subst hr3
  subst hr2
  subst hr1
  subst hr0
  obtain ⟨a0_', rfl, a0_w⟩ := HasT.int_inv t0 tyK_3
  obtain ⟨a1_', rfl, a1_w⟩ := HasT.int_inv t1 tyK_3
  obtain ⟨a2_', rfl, a2_w⟩ := HasT.int_inv t2 tyK_3
  obtain ⟨a3_', rfl, a3_w⟩ := HasT.int_inv t3 tyK_3
  exact ⟨⟨a0_', a1_', a2_', a3_'⟩, rfl, ⟨a0_w, a1_w, a2_w, a3_w⟩⟩
structure GThing where
  Title : Int
  Text : Int
  Parent : Int
  Flags : Int
  Room : Bool
  Props : (List Int)
  Words : (List ByteArray)
  Adjs : (List ByteArray)
  Ways : (List GWay)
  deriving DecidableEq
def GThing.enc (x : GThing) : List D := [D.v (.int .i64 x.Title), D.v (.int .i64 x.Text), D.v (.int .i64 x.Parent), D.v (.int .i64 x.Flags), D.v (.bool x.Room), D.sl (encI x.Props), D.sl (encS x.Words), D.sl (encS x.Adjs), D.sl (x.Ways.map GWay.enc)]
@[simp] theorem GThing.enc_length (x : GThing) : x.enc.length = 9 := rfl
@[simp] theorem GThing.enc_0 (x : GThing) : x.enc[0]? = some (D.v (.int .i64 x.Title)) := rfl
@[simp] theorem GThing.encg_0 (x : GThing) (h : 0 < x.enc.length) : x.enc[0] = D.v (.int .i64 x.Title) := rfl
@[simp] theorem GThing.enc_1 (x : GThing) : x.enc[1]? = some (D.v (.int .i64 x.Text)) := rfl
@[simp] theorem GThing.encg_1 (x : GThing) (h : 1 < x.enc.length) : x.enc[1] = D.v (.int .i64 x.Text) := rfl
@[simp] theorem GThing.enc_2 (x : GThing) : x.enc[2]? = some (D.v (.int .i64 x.Parent)) := rfl
@[simp] theorem GThing.encg_2 (x : GThing) (h : 2 < x.enc.length) : x.enc[2] = D.v (.int .i64 x.Parent) := rfl
@[simp] theorem GThing.enc_3 (x : GThing) : x.enc[3]? = some (D.v (.int .i64 x.Flags)) := rfl
@[simp] theorem GThing.encg_3 (x : GThing) (h : 3 < x.enc.length) : x.enc[3] = D.v (.int .i64 x.Flags) := rfl
@[simp] theorem GThing.enc_4 (x : GThing) : x.enc[4]? = some (D.v (.bool x.Room)) := rfl
@[simp] theorem GThing.encg_4 (x : GThing) (h : 4 < x.enc.length) : x.enc[4] = D.v (.bool x.Room) := rfl
@[simp] theorem GThing.enc_5 (x : GThing) : x.enc[5]? = some (D.sl (encI x.Props)) := rfl
@[simp] theorem GThing.encg_5 (x : GThing) (h : 5 < x.enc.length) : x.enc[5] = D.sl (encI x.Props) := rfl
@[simp] theorem GThing.enc_6 (x : GThing) : x.enc[6]? = some (D.sl (encS x.Words)) := rfl
@[simp] theorem GThing.encg_6 (x : GThing) (h : 6 < x.enc.length) : x.enc[6] = D.sl (encS x.Words) := rfl
@[simp] theorem GThing.enc_7 (x : GThing) : x.enc[7]? = some (D.sl (encS x.Adjs)) := rfl
@[simp] theorem GThing.encg_7 (x : GThing) (h : 7 < x.enc.length) : x.enc[7] = D.sl (encS x.Adjs) := rfl
@[simp] theorem GThing.enc_8 (x : GThing) : x.enc[8]? = some (D.sl (x.Ways.map GWay.enc)) := rfl
@[simp] theorem GThing.encg_8 (x : GThing) (h : 8 < x.enc.length) : x.enc[8] = D.sl (x.Ways.map GWay.enc) := rfl
@[simp] theorem GThing.fzV (L : Heap) (x : GThing) : V.fzs L (x.enc.map V.d) = x.enc.map V.d := by simp [GThing.enc, V.fzs, V.fz]
def GThing.zero : GThing := ⟨0, 0, 0, 0, false, [], [], [], []⟩
theorem GThing.zero_enc : GThing.zero.enc = [D.v (.int .i64 0), D.v (.int .i64 0), D.v (.int .i64 0), D.v (.int .i64 0), D.v (.bool false), D.sl [], D.sl [], D.sl [], D.sl []] := rfl
@[simp] theorem GThing.getZ (o : Option GThing) : (o.map GThing.enc).getD [D.v (.int .i64 0), D.v (.int .i64 0), D.v (.int .i64 0), D.v (.int .i64 0), D.v (.bool false), D.sl [], D.sl [], D.sl [], D.sl []] = (o.getD GThing.zero).enc := by cases o <;> rfl
@[simp] theorem GThing.getV (o : Option GThing) : (o.map (fun x => x.enc.map V.d)).getD [V.d (D.v (.int .i64 0)), V.d (D.v (.int .i64 0)), V.d (D.v (.int .i64 0)), V.d (D.v (.int .i64 0)), V.d (D.v (.bool false)), V.d (D.sl []), V.d (D.sl []), V.d (D.sl []), V.d (D.sl [])] = ((o.getD GThing.zero).enc).map V.d := by cases o <;> rfl
theorem GThing.cellAt (l : List GThing) (i j : Nat) (z : D) (h : GThing.zero.enc[j]? = some z) : cellAt (dd (l.map GThing.enc)) i j [V.d z] = V.d (((l[i]?.getD GThing.zero).enc[j]?).getD default) := by
  unfold Go.Ab.cellAt
  rw [dd_get, List.getElem?_map]
  cases hl : l[i]? with
  | none => simp [h]
  | some a =>
    have hj := (List.getElem?_eq_some_iff.1 h).1
    have hj' : j < a.enc.length := by rw [GThing.enc_length] at hj ⊢; exact hj
    simp only [Option.map_some, List.getElem?_map, List.getElem?_eq_getElem hj', Option.getD_some]
@[simp] theorem GThing.cellAt_0 (l : List GThing) (i : Nat) : Go.Ab.cellAt (dd (l.map GThing.enc)) i 0 [V.d (D.v (.int .i64 0))] = V.d (D.v (.int .i64 (l[i]?.getD GThing.zero).Title)) := (GThing.cellAt l i 0 (D.v (.int .i64 0)) rfl).trans (by simp)
@[simp] theorem GThing.cellAt_1 (l : List GThing) (i : Nat) : Go.Ab.cellAt (dd (l.map GThing.enc)) i 1 [V.d (D.v (.int .i64 0))] = V.d (D.v (.int .i64 (l[i]?.getD GThing.zero).Text)) := (GThing.cellAt l i 1 (D.v (.int .i64 0)) rfl).trans (by simp)
@[simp] theorem GThing.cellAt_2 (l : List GThing) (i : Nat) : Go.Ab.cellAt (dd (l.map GThing.enc)) i 2 [V.d (D.v (.int .i64 0))] = V.d (D.v (.int .i64 (l[i]?.getD GThing.zero).Parent)) := (GThing.cellAt l i 2 (D.v (.int .i64 0)) rfl).trans (by simp)
@[simp] theorem GThing.cellAt_3 (l : List GThing) (i : Nat) : Go.Ab.cellAt (dd (l.map GThing.enc)) i 3 [V.d (D.v (.int .i64 0))] = V.d (D.v (.int .i64 (l[i]?.getD GThing.zero).Flags)) := (GThing.cellAt l i 3 (D.v (.int .i64 0)) rfl).trans (by simp)
@[simp] theorem GThing.cellAt_4 (l : List GThing) (i : Nat) : Go.Ab.cellAt (dd (l.map GThing.enc)) i 4 [V.d (D.v (.bool false))] = V.d (D.v (.bool (l[i]?.getD GThing.zero).Room)) := (GThing.cellAt l i 4 (D.v (.bool false)) rfl).trans (by simp)
@[simp] theorem GThing.cellAt_5 (l : List GThing) (i : Nat) : Go.Ab.cellAt (dd (l.map GThing.enc)) i 5 [V.d (D.sl [])] = V.d (D.sl (encI (l[i]?.getD GThing.zero).Props)) := (GThing.cellAt l i 5 (D.sl []) rfl).trans (by simp)
@[simp] theorem GThing.cellAt_6 (l : List GThing) (i : Nat) : Go.Ab.cellAt (dd (l.map GThing.enc)) i 6 [V.d (D.sl [])] = V.d (D.sl (encS (l[i]?.getD GThing.zero).Words)) := (GThing.cellAt l i 6 (D.sl []) rfl).trans (by simp)
@[simp] theorem GThing.cellAt_7 (l : List GThing) (i : Nat) : Go.Ab.cellAt (dd (l.map GThing.enc)) i 7 [V.d (D.sl [])] = V.d (D.sl (encS (l[i]?.getD GThing.zero).Adjs)) := (GThing.cellAt l i 7 (D.sl []) rfl).trans (by simp)
@[simp] theorem GThing.cellAt_8 (l : List GThing) (i : Nat) : Go.Ab.cellAt (dd (l.map GThing.enc)) i 8 [V.d (D.sl [])] = V.d (D.sl ((l[i]?.getD GThing.zero).Ways.map GWay.enc)) := (GThing.cellAt l i 8 (D.sl []) rfl).trans (by simp)
@[simp] theorem GThing.aggAt (l : List GThing) (i : Nat) : Go.Ab.aggAt (dd (l.map GThing.enc)) i 0 9 [V.d (D.v (.int .i64 0)), V.d (D.v (.int .i64 0)), V.d (D.v (.int .i64 0)), V.d (D.v (.int .i64 0)), V.d (D.v (.bool false)), V.d (D.sl []), V.d (D.sl []), V.d (D.sl []), V.d (D.sl [])] = (l[i]?.getD GThing.zero).enc.map V.d := by
  unfold Go.Ab.aggAt
  rw [dd_get, List.getElem?_map]
  cases l[i]? with
  | none => rfl
  | some x => simp; cases x; rfl
@[simp] theorem GThing.dropAll (x : GThing) : List.drop 9 x.enc = [] := rfl
@[simp] theorem GThing.dropAllv (x : GThing) : List.drop 9 (x.enc.map V.d) = [] := rfl
@[simp] theorem GThing.enc_all (x : GThing) : x.enc.take 9 = x.enc := rfl
@[simp] theorem GThing.enc_allv (x : GThing) : List.take 9 (x.enc.map V.d) = x.enc.map V.d := rfl
def GThing.wf (x : GThing) : Prop := inR .i64 x.Title ∧ inR .i64 x.Text ∧ inR .i64 x.Parent ∧ inR .i64 x.Flags ∧ x.Props.length * 8 ≤ 140737488351232 ∧ (∀ y0 : Int, y0 ∈ x.Props → inR .i64 y0) ∧ x.Words.length * 16 ≤ 140737488351232 ∧ (∀ y0 : ByteArray, y0 ∈ x.Words → y0.size ≤ 140737488351232) ∧ x.Adjs.length * 16 ≤ 140737488351232 ∧ (∀ y0 : ByteArray, y0 ∈ x.Adjs → y0.size ≤ 140737488351232) ∧ x.Ways.length * 32 ≤ 140737488351232 ∧ (∀ y0 : GWay, y0 ∈ x.Ways → y0.wf)
theorem GThing.wf_Title {x : GThing} (h : x.wf) : inR .i64 x.Title := h.1
theorem GThing.wf_Text {x : GThing} (h : x.wf) : inR .i64 x.Text := h.2.1
theorem GThing.wf_Parent {x : GThing} (h : x.wf) : inR .i64 x.Parent := h.2.2.1
theorem GThing.wf_Flags {x : GThing} (h : x.wf) : inR .i64 x.Flags := h.2.2.2.1
theorem GThing.wl_Props {x : GThing} (h : x.wf) : x.Props.length * 8 ≤ 140737488351232 := h.2.2.2.2.1
theorem GThing.wf_Props {x : GThing} (h : x.wf) : (∀ y0 : Int, y0 ∈ x.Props → inR .i64 y0) := h.2.2.2.2.2.1
theorem GThing.wl_Words {x : GThing} (h : x.wf) : x.Words.length * 16 ≤ 140737488351232 := h.2.2.2.2.2.2.1
theorem GThing.wf_Words {x : GThing} (h : x.wf) : (∀ y0 : ByteArray, y0 ∈ x.Words → y0.size ≤ 140737488351232) := h.2.2.2.2.2.2.2.1
theorem GThing.wl_Adjs {x : GThing} (h : x.wf) : x.Adjs.length * 16 ≤ 140737488351232 := h.2.2.2.2.2.2.2.2.1
theorem GThing.wf_Adjs {x : GThing} (h : x.wf) : (∀ y0 : ByteArray, y0 ∈ x.Adjs → y0.size ≤ 140737488351232) := h.2.2.2.2.2.2.2.2.2.1
theorem GThing.wl_Ways {x : GThing} (h : x.wf) : x.Ways.length * 32 ≤ 140737488351232 := h.2.2.2.2.2.2.2.2.2.2.1
theorem GThing.wf_Ways {x : GThing} (h : x.wf) : (∀ y0 : GWay, y0 ∈ x.Ways → y0.wf) := h.2.2.2.2.2.2.2.2.2.2.2
theorem tyK_38 : tyK Go.Proofs.Try.prog 38 = .st [3, 3, 3, 3, 4, 23, 22, 22, 36] := by kernel_rfl
theorem tyK_4 : tyK Go.Proofs.Try.prog 4 = .bool := by kernel_rfl
theorem tyK_23 : tyK Go.Proofs.Try.prog 23 = .sl 3 8 := by kernel_rfl
theorem tyK_22 : tyK Go.Proofs.Try.prog 22 = .sl 9 16 := by kernel_rfl
theorem tyK_9 : tyK Go.Proofs.Try.prog 9 = .str := by kernel_rfl
theorem tyK_36 : tyK Go.Proofs.Try.prog 36 = .sl 40 32 := by kernel_rfl
theorem GThing.of {ys : List D} (h : HasT Go.Proofs.Try.prog 38 ys) : ∃ x : GThing, ys = x.enc ∧ x.wf := by
  have h' := HasT.st_inv h tyK_38
  obtain ⟨a0_, r0, hr0, t0, h0⟩ := h'
  obtain ⟨a1_, r1, hr1, t1, h1⟩ := h0
  obtain ⟨a2_, r2, hr2, t2, h2⟩ := h1
  obtain ⟨a3_, r3, hr3, t3, h3⟩ := h2
  obtain ⟨a4_, r4, hr4, t4, h4⟩ := h3
  obtain ⟨a5_, r5, hr5, t5, h5⟩ := h4
  obtain ⟨a6_, r6, hr6, t6, h6⟩ := h5
  obtain ⟨a7_, r7, hr7, t7, h7⟩ := h6
  obtain ⟨a8_, r8, hr8, t8, h8⟩ := h7
  simp only [HasTs] at h8
  subst h8
  subst hr8
  subst hr7
  subst hr6
  subst hr5
  subst hr4
  subst hr3
  subst hr2
  subst hr1
  subst hr0
  obtain ⟨a0_', rfl, a0_w⟩ := HasT.int_inv t0 tyK_3
  obtain ⟨a1_', rfl, a1_w⟩ := HasT.int_inv t1 tyK_3
  obtain ⟨a2_', rfl, a2_w⟩ := HasT.int_inv t2 tyK_3
  obtain ⟨a3_', rfl, a3_w⟩ := HasT.int_inv t3 tyK_3
  obtain ⟨a4_', rfl⟩ := HasT.bool_inv t4 tyK_4
  obtain ⟨a5_0, rfl, a5_h, a5_l, a5_w⟩ := HasT.sl_inv t5 tyK_23
  obtain ⟨a5_', rfl, a5_a⟩ := map_of (f := (fun y => [D.v (.int .i64 y)])) (p := fun (y : Int) => inR .i64 y) (fun a5_e hx => by
    have a5_q := a5_h a5_e hx
    obtain ⟨a5_e', rfl, a5_ew⟩ := HasT.int_inv a5_q tyK_3
    exact ⟨a5_e', rfl, a5_ew⟩)
  obtain ⟨a6_0, rfl, a6_h, a6_l, a6_w⟩ := HasT.sl_inv t6 tyK_22
  obtain ⟨a6_', rfl, a6_a⟩ := map_of (f := (fun y => [D.v (.string y)])) (p := fun (y : ByteArray) => y.size ≤ 140737488351232) (fun a6_e hx => by
    have a6_q := a6_h a6_e hx
    obtain ⟨a6_e', rfl, a6_ew⟩ := HasT.str_inv a6_q tyK_9
    exact ⟨a6_e', rfl, a6_ew⟩)
  obtain ⟨a7_0, rfl, a7_h, a7_l, a7_w⟩ := HasT.sl_inv t7 tyK_22
  obtain ⟨a7_', rfl, a7_a⟩ := map_of (f := (fun y => [D.v (.string y)])) (p := fun (y : ByteArray) => y.size ≤ 140737488351232) (fun a7_e hx => by
    have a7_q := a7_h a7_e hx
    obtain ⟨a7_e', rfl, a7_ew⟩ := HasT.str_inv a7_q tyK_9
    exact ⟨a7_e', rfl, a7_ew⟩)
  obtain ⟨a8_0, rfl, a8_h, a8_l, a8_w⟩ := HasT.sl_inv t8 tyK_36
  obtain ⟨a8_', rfl, a8_a⟩ := map_of (f := GWay.enc) (p := fun (y : GWay) => y.wf) (fun a8_e hx => by
    have a8_q := a8_h a8_e hx
    obtain ⟨a8_e', rfl, a8_ew⟩ := GWay.of a8_q
    exact ⟨a8_e', rfl, a8_ew⟩)
  exact ⟨⟨a0_', a1_', a2_', a3_', a4_', a5_', a6_', a7_', a8_'⟩, rfl, ⟨a0_w, a1_w, a2_w, a3_w, (by simpa using a5_w), a5_a, (by simpa using a6_w), a6_a, (by simpa using a7_w), a7_a, (by simpa using a8_w), a8_a⟩⟩
structure GSlot where
  Kind : Int
  Words : (List ByteArray)
  deriving DecidableEq
def GSlot.enc (x : GSlot) : List D := [D.v (.int .i64 x.Kind), D.sl (encS x.Words)]
@[simp] theorem GSlot.enc_length (x : GSlot) : x.enc.length = 2 := rfl
@[simp] theorem GSlot.enc_0 (x : GSlot) : x.enc[0]? = some (D.v (.int .i64 x.Kind)) := rfl
@[simp] theorem GSlot.encg_0 (x : GSlot) (h : 0 < x.enc.length) : x.enc[0] = D.v (.int .i64 x.Kind) := rfl
@[simp] theorem GSlot.enc_1 (x : GSlot) : x.enc[1]? = some (D.sl (encS x.Words)) := rfl
@[simp] theorem GSlot.encg_1 (x : GSlot) (h : 1 < x.enc.length) : x.enc[1] = D.sl (encS x.Words) := rfl
@[simp] theorem GSlot.fzV (L : Heap) (x : GSlot) : V.fzs L (x.enc.map V.d) = x.enc.map V.d := by simp [GSlot.enc, V.fzs, V.fz]
def GSlot.zero : GSlot := ⟨0, []⟩
theorem GSlot.zero_enc : GSlot.zero.enc = [D.v (.int .i64 0), D.sl []] := rfl
@[simp] theorem GSlot.getZ (o : Option GSlot) : (o.map GSlot.enc).getD [D.v (.int .i64 0), D.sl []] = (o.getD GSlot.zero).enc := by cases o <;> rfl
@[simp] theorem GSlot.getV (o : Option GSlot) : (o.map (fun x => x.enc.map V.d)).getD [V.d (D.v (.int .i64 0)), V.d (D.sl [])] = ((o.getD GSlot.zero).enc).map V.d := by cases o <;> rfl
theorem GSlot.cellAt (l : List GSlot) (i j : Nat) (z : D) (h : GSlot.zero.enc[j]? = some z) : cellAt (dd (l.map GSlot.enc)) i j [V.d z] = V.d (((l[i]?.getD GSlot.zero).enc[j]?).getD default) := by
  unfold Go.Ab.cellAt
  rw [dd_get, List.getElem?_map]
  cases hl : l[i]? with
  | none => simp [h]
  | some a =>
    have hj := (List.getElem?_eq_some_iff.1 h).1
    have hj' : j < a.enc.length := by rw [GSlot.enc_length] at hj ⊢; exact hj
    simp only [Option.map_some, List.getElem?_map, List.getElem?_eq_getElem hj', Option.getD_some]
@[simp] theorem GSlot.cellAt_0 (l : List GSlot) (i : Nat) : Go.Ab.cellAt (dd (l.map GSlot.enc)) i 0 [V.d (D.v (.int .i64 0))] = V.d (D.v (.int .i64 (l[i]?.getD GSlot.zero).Kind)) := (GSlot.cellAt l i 0 (D.v (.int .i64 0)) rfl).trans (by simp)
@[simp] theorem GSlot.cellAt_1 (l : List GSlot) (i : Nat) : Go.Ab.cellAt (dd (l.map GSlot.enc)) i 1 [V.d (D.sl [])] = V.d (D.sl (encS (l[i]?.getD GSlot.zero).Words)) := (GSlot.cellAt l i 1 (D.sl []) rfl).trans (by simp)
@[simp] theorem GSlot.aggAt (l : List GSlot) (i : Nat) : Go.Ab.aggAt (dd (l.map GSlot.enc)) i 0 2 [V.d (D.v (.int .i64 0)), V.d (D.sl [])] = (l[i]?.getD GSlot.zero).enc.map V.d := by
  unfold Go.Ab.aggAt
  rw [dd_get, List.getElem?_map]
  cases l[i]? with
  | none => rfl
  | some x => simp; cases x; rfl
@[simp] theorem GSlot.dropAll (x : GSlot) : List.drop 2 x.enc = [] := rfl
@[simp] theorem GSlot.dropAllv (x : GSlot) : List.drop 2 (x.enc.map V.d) = [] := rfl
@[simp] theorem GSlot.enc_all (x : GSlot) : x.enc.take 2 = x.enc := rfl
@[simp] theorem GSlot.enc_allv (x : GSlot) : List.take 2 (x.enc.map V.d) = x.enc.map V.d := rfl
def GSlot.wf (x : GSlot) : Prop := inR .i64 x.Kind ∧ x.Words.length * 16 ≤ 140737488351232 ∧ (∀ y0 : ByteArray, y0 ∈ x.Words → y0.size ≤ 140737488351232)
theorem GSlot.wf_Kind {x : GSlot} (h : x.wf) : inR .i64 x.Kind := h.1
theorem GSlot.wl_Words {x : GSlot} (h : x.wf) : x.Words.length * 16 ≤ 140737488351232 := h.2.1
theorem GSlot.wf_Words {x : GSlot} (h : x.wf) : (∀ y0 : ByteArray, y0 ∈ x.Words → y0.size ≤ 140737488351232) := h.2.2
theorem tyK_135 : tyK Go.Proofs.Try.prog 135 = .st [3, 22] := by kernel_rfl
theorem GSlot.of {ys : List D} (h : HasT Go.Proofs.Try.prog 135 ys) : ∃ x : GSlot, ys = x.enc ∧ x.wf := by
  have h' := HasT.st_inv h tyK_135
  obtain ⟨a0_, r0, hr0, t0, h0⟩ := h'
  obtain ⟨a1_, r1, hr1, t1, h1⟩ := h0
  simp only [HasTs] at h1
  subst h1
  subst hr1
  subst hr0
  obtain ⟨a0_', rfl, a0_w⟩ := HasT.int_inv t0 tyK_3
  obtain ⟨a1_0, rfl, a1_h, a1_l, a1_w⟩ := HasT.sl_inv t1 tyK_22
  obtain ⟨a1_', rfl, a1_a⟩ := map_of (f := (fun y => [D.v (.string y)])) (p := fun (y : ByteArray) => y.size ≤ 140737488351232) (fun a1_e hx => by
    have a1_q := a1_h a1_e hx
    obtain ⟨a1_e', rfl, a1_ew⟩ := HasT.str_inv a1_q tyK_9
    exact ⟨a1_e', rfl, a1_ew⟩)
  exact ⟨⟨a0_', a1_'⟩, rfl, ⟨a0_w, (by simpa using a1_w), a1_a⟩⟩
structure GAct where
  Meta : Bool
  Lines : (List (List GSlot))
  deriving DecidableEq
def GAct.enc (x : GAct) : List D := [D.v (.bool x.Meta), D.sl (encSl (List.map GSlot.enc) x.Lines)]
@[simp] theorem GAct.enc_length (x : GAct) : x.enc.length = 2 := rfl
@[simp] theorem GAct.enc_0 (x : GAct) : x.enc[0]? = some (D.v (.bool x.Meta)) := rfl
@[simp] theorem GAct.encg_0 (x : GAct) (h : 0 < x.enc.length) : x.enc[0] = D.v (.bool x.Meta) := rfl
@[simp] theorem GAct.enc_1 (x : GAct) : x.enc[1]? = some (D.sl (encSl (List.map GSlot.enc) x.Lines)) := rfl
@[simp] theorem GAct.encg_1 (x : GAct) (h : 1 < x.enc.length) : x.enc[1] = D.sl (encSl (List.map GSlot.enc) x.Lines) := rfl
@[simp] theorem GAct.fzV (L : Heap) (x : GAct) : V.fzs L (x.enc.map V.d) = x.enc.map V.d := by simp [GAct.enc, V.fzs, V.fz]
def GAct.zero : GAct := ⟨false, []⟩
theorem GAct.zero_enc : GAct.zero.enc = [D.v (.bool false), D.sl []] := rfl
@[simp] theorem GAct.getZ (o : Option GAct) : (o.map GAct.enc).getD [D.v (.bool false), D.sl []] = (o.getD GAct.zero).enc := by cases o <;> rfl
@[simp] theorem GAct.getV (o : Option GAct) : (o.map (fun x => x.enc.map V.d)).getD [V.d (D.v (.bool false)), V.d (D.sl [])] = ((o.getD GAct.zero).enc).map V.d := by cases o <;> rfl
theorem GAct.cellAt (l : List GAct) (i j : Nat) (z : D) (h : GAct.zero.enc[j]? = some z) : cellAt (dd (l.map GAct.enc)) i j [V.d z] = V.d (((l[i]?.getD GAct.zero).enc[j]?).getD default) := by
  unfold Go.Ab.cellAt
  rw [dd_get, List.getElem?_map]
  cases hl : l[i]? with
  | none => simp [h]
  | some a =>
    have hj := (List.getElem?_eq_some_iff.1 h).1
    have hj' : j < a.enc.length := by rw [GAct.enc_length] at hj ⊢; exact hj
    simp only [Option.map_some, List.getElem?_map, List.getElem?_eq_getElem hj', Option.getD_some]
@[simp] theorem GAct.cellAt_0 (l : List GAct) (i : Nat) : Go.Ab.cellAt (dd (l.map GAct.enc)) i 0 [V.d (D.v (.bool false))] = V.d (D.v (.bool (l[i]?.getD GAct.zero).Meta)) := (GAct.cellAt l i 0 (D.v (.bool false)) rfl).trans (by simp)
@[simp] theorem GAct.cellAt_1 (l : List GAct) (i : Nat) : Go.Ab.cellAt (dd (l.map GAct.enc)) i 1 [V.d (D.sl [])] = V.d (D.sl (encSl (List.map GSlot.enc) (l[i]?.getD GAct.zero).Lines)) := (GAct.cellAt l i 1 (D.sl []) rfl).trans (by simp)
@[simp] theorem GAct.aggAt (l : List GAct) (i : Nat) : Go.Ab.aggAt (dd (l.map GAct.enc)) i 0 2 [V.d (D.v (.bool false)), V.d (D.sl [])] = (l[i]?.getD GAct.zero).enc.map V.d := by
  unfold Go.Ab.aggAt
  rw [dd_get, List.getElem?_map]
  cases l[i]? with
  | none => rfl
  | some x => simp; cases x; rfl
@[simp] theorem GAct.dropAll (x : GAct) : List.drop 2 x.enc = [] := rfl
@[simp] theorem GAct.dropAllv (x : GAct) : List.drop 2 (x.enc.map V.d) = [] := rfl
@[simp] theorem GAct.enc_all (x : GAct) : x.enc.take 2 = x.enc := rfl
@[simp] theorem GAct.enc_allv (x : GAct) : List.take 2 (x.enc.map V.d) = x.enc.map V.d := rfl
def GAct.wf (x : GAct) : Prop := x.Lines.length * 24 ≤ 140737488351232 ∧ (∀ y0 : (List GSlot), y0 ∈ x.Lines → y0.length * 32 ≤ 140737488351232 ∧ (∀ y1 : GSlot, y1 ∈ y0 → y1.wf))
theorem GAct.wl_Lines {x : GAct} (h : x.wf) : x.Lines.length * 24 ≤ 140737488351232 := h.1
theorem GAct.wf_Lines {x : GAct} (h : x.wf) : (∀ y0 : (List GSlot), y0 ∈ x.Lines → y0.length * 32 ≤ 140737488351232 ∧ (∀ y1 : GSlot, y1 ∈ y0 → y1.wf)) := h.2
theorem tyK_115 : tyK Go.Proofs.Try.prog 115 = .st [4, 113] := by kernel_rfl
theorem tyK_113 : tyK Go.Proofs.Try.prog 113 = .sl 117 24 := by kernel_rfl
theorem tyK_117 : tyK Go.Proofs.Try.prog 117 = .sl 135 32 := by kernel_rfl
theorem GAct.of {ys : List D} (h : HasT Go.Proofs.Try.prog 115 ys) : ∃ x : GAct, ys = x.enc ∧ x.wf := by
  have h' := HasT.st_inv h tyK_115
  obtain ⟨a0_, r0, hr0, t0, h0⟩ := h'
  obtain ⟨a1_, r1, hr1, t1, h1⟩ := h0
  simp only [HasTs] at h1
  subst h1
  subst hr1
  subst hr0
  obtain ⟨a0_', rfl⟩ := HasT.bool_inv t0 tyK_4
  obtain ⟨a1_0, rfl, a1_h, a1_l, a1_w⟩ := HasT.sl_inv t1 tyK_113
  obtain ⟨a1_', rfl, a1_a⟩ := map_of (f := (fun y => [D.sl (y.map GSlot.enc)])) (p := fun (y : (List GSlot)) => y.length * 32 ≤ 140737488351232 ∧ (∀ y1 : GSlot, y1 ∈ y → y1.wf)) (fun a1_e hx => by
    have a1_q := a1_h a1_e hx
    obtain ⟨a1_e0, rfl, a1_eh, a1_el, a1_ew⟩ := HasT.sl_inv a1_q tyK_117
    obtain ⟨a1_e', rfl, a1_ea⟩ := map_of (f := GSlot.enc) (p := fun (y : GSlot) => y.wf) (fun a1_ee hx => by
      have a1_eq := a1_eh a1_ee hx
      obtain ⟨a1_ee', rfl, a1_eew⟩ := GSlot.of a1_eq
      exact ⟨a1_ee', rfl, a1_eew⟩)
    exact ⟨a1_e', rfl, ⟨(by simpa using a1_ew), a1_ea⟩⟩)
  exact ⟨⟨a0_', a1_'⟩, rfl, ⟨(by simpa using a1_w), a1_a⟩⟩
structure GDeed where
  Verb : Int
  Phase : Int
  Noun : Int
  Second : Int
  When : Int
  Body : Int
  deriving DecidableEq
def GDeed.enc (x : GDeed) : List D := [D.v (.int .i64 x.Verb), D.v (.int .i64 x.Phase), D.v (.int .i64 x.Noun), D.v (.int .i64 x.Second), D.v (.int .i64 x.When), D.v (.int .i64 x.Body)]
@[simp] theorem GDeed.enc_length (x : GDeed) : x.enc.length = 6 := rfl
@[simp] theorem GDeed.enc_0 (x : GDeed) : x.enc[0]? = some (D.v (.int .i64 x.Verb)) := rfl
@[simp] theorem GDeed.encg_0 (x : GDeed) (h : 0 < x.enc.length) : x.enc[0] = D.v (.int .i64 x.Verb) := rfl
@[simp] theorem GDeed.enc_1 (x : GDeed) : x.enc[1]? = some (D.v (.int .i64 x.Phase)) := rfl
@[simp] theorem GDeed.encg_1 (x : GDeed) (h : 1 < x.enc.length) : x.enc[1] = D.v (.int .i64 x.Phase) := rfl
@[simp] theorem GDeed.enc_2 (x : GDeed) : x.enc[2]? = some (D.v (.int .i64 x.Noun)) := rfl
@[simp] theorem GDeed.encg_2 (x : GDeed) (h : 2 < x.enc.length) : x.enc[2] = D.v (.int .i64 x.Noun) := rfl
@[simp] theorem GDeed.enc_3 (x : GDeed) : x.enc[3]? = some (D.v (.int .i64 x.Second)) := rfl
@[simp] theorem GDeed.encg_3 (x : GDeed) (h : 3 < x.enc.length) : x.enc[3] = D.v (.int .i64 x.Second) := rfl
@[simp] theorem GDeed.enc_4 (x : GDeed) : x.enc[4]? = some (D.v (.int .i64 x.When)) := rfl
@[simp] theorem GDeed.encg_4 (x : GDeed) (h : 4 < x.enc.length) : x.enc[4] = D.v (.int .i64 x.When) := rfl
@[simp] theorem GDeed.enc_5 (x : GDeed) : x.enc[5]? = some (D.v (.int .i64 x.Body)) := rfl
@[simp] theorem GDeed.encg_5 (x : GDeed) (h : 5 < x.enc.length) : x.enc[5] = D.v (.int .i64 x.Body) := rfl
@[simp] theorem GDeed.fzV (L : Heap) (x : GDeed) : V.fzs L (x.enc.map V.d) = x.enc.map V.d := by simp [GDeed.enc, V.fzs, V.fz]
@[simp] theorem GDeed.eqV (x y : GDeed) : eqVs (x.enc.map V.d) (y.enc.map V.d) = some (decide (x = y)) := by
  rcases x with ⟨a_0, a_1, a_2, a_3, a_4, a_5⟩
  rcases y with ⟨b_0, b_1, b_2, b_3, b_4, b_5⟩
  simp only [GDeed.enc, List.map, eqVs, vals, eqVals, eqV1, if_true, Option.some.injEq, bytes_beq]
  rw [Bool.eq_iff_iff]
  simp [and_assoc]
@[simp] theorem GDeed.fitV (x : GDeed) : fitVs [.i .i64, .i .i64, .i .i64, .i .i64, .i .i64, .i .i64] (x.enc.map V.d) = true := by
  simp [GDeed.enc, fitVs, vals, fits, fit1]
def GDeed.zero : GDeed := ⟨0, 0, 0, 0, 0, 0⟩
theorem GDeed.zero_enc : GDeed.zero.enc = [D.v (.int .i64 0), D.v (.int .i64 0), D.v (.int .i64 0), D.v (.int .i64 0), D.v (.int .i64 0), D.v (.int .i64 0)] := rfl
@[simp] theorem GDeed.getZ (o : Option GDeed) : (o.map GDeed.enc).getD [D.v (.int .i64 0), D.v (.int .i64 0), D.v (.int .i64 0), D.v (.int .i64 0), D.v (.int .i64 0), D.v (.int .i64 0)] = (o.getD GDeed.zero).enc := by cases o <;> rfl
@[simp] theorem GDeed.getV (o : Option GDeed) : (o.map (fun x => x.enc.map V.d)).getD [V.d (D.v (.int .i64 0)), V.d (D.v (.int .i64 0)), V.d (D.v (.int .i64 0)), V.d (D.v (.int .i64 0)), V.d (D.v (.int .i64 0)), V.d (D.v (.int .i64 0))] = ((o.getD GDeed.zero).enc).map V.d := by cases o <;> rfl
theorem GDeed.cellAt (l : List GDeed) (i j : Nat) (z : D) (h : GDeed.zero.enc[j]? = some z) : cellAt (dd (l.map GDeed.enc)) i j [V.d z] = V.d (((l[i]?.getD GDeed.zero).enc[j]?).getD default) := by
  unfold Go.Ab.cellAt
  rw [dd_get, List.getElem?_map]
  cases hl : l[i]? with
  | none => simp [h]
  | some a =>
    have hj := (List.getElem?_eq_some_iff.1 h).1
    have hj' : j < a.enc.length := by rw [GDeed.enc_length] at hj ⊢; exact hj
    simp only [Option.map_some, List.getElem?_map, List.getElem?_eq_getElem hj', Option.getD_some]
@[simp] theorem GDeed.cellAt_0 (l : List GDeed) (i : Nat) : Go.Ab.cellAt (dd (l.map GDeed.enc)) i 0 [V.d (D.v (.int .i64 0))] = V.d (D.v (.int .i64 (l[i]?.getD GDeed.zero).Verb)) := (GDeed.cellAt l i 0 (D.v (.int .i64 0)) rfl).trans (by simp)
@[simp] theorem GDeed.cellAt_1 (l : List GDeed) (i : Nat) : Go.Ab.cellAt (dd (l.map GDeed.enc)) i 1 [V.d (D.v (.int .i64 0))] = V.d (D.v (.int .i64 (l[i]?.getD GDeed.zero).Phase)) := (GDeed.cellAt l i 1 (D.v (.int .i64 0)) rfl).trans (by simp)
@[simp] theorem GDeed.cellAt_2 (l : List GDeed) (i : Nat) : Go.Ab.cellAt (dd (l.map GDeed.enc)) i 2 [V.d (D.v (.int .i64 0))] = V.d (D.v (.int .i64 (l[i]?.getD GDeed.zero).Noun)) := (GDeed.cellAt l i 2 (D.v (.int .i64 0)) rfl).trans (by simp)
@[simp] theorem GDeed.cellAt_3 (l : List GDeed) (i : Nat) : Go.Ab.cellAt (dd (l.map GDeed.enc)) i 3 [V.d (D.v (.int .i64 0))] = V.d (D.v (.int .i64 (l[i]?.getD GDeed.zero).Second)) := (GDeed.cellAt l i 3 (D.v (.int .i64 0)) rfl).trans (by simp)
@[simp] theorem GDeed.cellAt_4 (l : List GDeed) (i : Nat) : Go.Ab.cellAt (dd (l.map GDeed.enc)) i 4 [V.d (D.v (.int .i64 0))] = V.d (D.v (.int .i64 (l[i]?.getD GDeed.zero).When)) := (GDeed.cellAt l i 4 (D.v (.int .i64 0)) rfl).trans (by simp)
@[simp] theorem GDeed.cellAt_5 (l : List GDeed) (i : Nat) : Go.Ab.cellAt (dd (l.map GDeed.enc)) i 5 [V.d (D.v (.int .i64 0))] = V.d (D.v (.int .i64 (l[i]?.getD GDeed.zero).Body)) := (GDeed.cellAt l i 5 (D.v (.int .i64 0)) rfl).trans (by simp)
@[simp] theorem GDeed.aggAt (l : List GDeed) (i : Nat) : Go.Ab.aggAt (dd (l.map GDeed.enc)) i 0 6 [V.d (D.v (.int .i64 0)), V.d (D.v (.int .i64 0)), V.d (D.v (.int .i64 0)), V.d (D.v (.int .i64 0)), V.d (D.v (.int .i64 0)), V.d (D.v (.int .i64 0))] = (l[i]?.getD GDeed.zero).enc.map V.d := by
  unfold Go.Ab.aggAt
  rw [dd_get, List.getElem?_map]
  cases l[i]? with
  | none => rfl
  | some x => simp; cases x; rfl
@[simp] theorem GDeed.dropAll (x : GDeed) : List.drop 6 x.enc = [] := rfl
@[simp] theorem GDeed.dropAllv (x : GDeed) : List.drop 6 (x.enc.map V.d) = [] := rfl
@[simp] theorem GDeed.enc_all (x : GDeed) : x.enc.take 6 = x.enc := rfl
@[simp] theorem GDeed.enc_allv (x : GDeed) : List.take 6 (x.enc.map V.d) = x.enc.map V.d := rfl
def GDeed.wf (x : GDeed) : Prop := inR .i64 x.Verb ∧ inR .i64 x.Phase ∧ inR .i64 x.Noun ∧ inR .i64 x.Second ∧ inR .i64 x.When ∧ inR .i64 x.Body
theorem GDeed.wf_Verb {x : GDeed} (h : x.wf) : inR .i64 x.Verb := h.1
theorem GDeed.wf_Phase {x : GDeed} (h : x.wf) : inR .i64 x.Phase := h.2.1
theorem GDeed.wf_Noun {x : GDeed} (h : x.wf) : inR .i64 x.Noun := h.2.2.1
theorem GDeed.wf_Second {x : GDeed} (h : x.wf) : inR .i64 x.Second := h.2.2.2.1
theorem GDeed.wf_When {x : GDeed} (h : x.wf) : inR .i64 x.When := h.2.2.2.2.1
theorem GDeed.wf_Body {x : GDeed} (h : x.wf) : inR .i64 x.Body := h.2.2.2.2.2
theorem tyK_119 : tyK Go.Proofs.Try.prog 119 = .st [3, 3, 3, 3, 3, 3] := by kernel_rfl
theorem GDeed.of {ys : List D} (h : HasT Go.Proofs.Try.prog 119 ys) : ∃ x : GDeed, ys = x.enc ∧ x.wf := by
  have h' := HasT.st_inv h tyK_119
  obtain ⟨a0_, r0, hr0, t0, h0⟩ := h'
  obtain ⟨a1_, r1, hr1, t1, h1⟩ := h0
  obtain ⟨a2_, r2, hr2, t2, h2⟩ := h1
  obtain ⟨a3_, r3, hr3, t3, h3⟩ := h2
  obtain ⟨a4_, r4, hr4, t4, h4⟩ := h3
  obtain ⟨a5_, r5, hr5, t5, h5⟩ := h4
  simp only [HasTs] at h5
  subst h5
  subst hr5
  subst hr4
  subst hr3
  subst hr2
  subst hr1
  subst hr0
  obtain ⟨a0_', rfl, a0_w⟩ := HasT.int_inv t0 tyK_3
  obtain ⟨a1_', rfl, a1_w⟩ := HasT.int_inv t1 tyK_3
  obtain ⟨a2_', rfl, a2_w⟩ := HasT.int_inv t2 tyK_3
  obtain ⟨a3_', rfl, a3_w⟩ := HasT.int_inv t3 tyK_3
  obtain ⟨a4_', rfl, a4_w⟩ := HasT.int_inv t4 tyK_3
  obtain ⟨a5_', rfl, a5_w⟩ := HasT.int_inv t5 tyK_3
  exact ⟨⟨a0_', a1_', a2_', a3_', a4_', a5_'⟩, rfl, ⟨a0_w, a1_w, a2_w, a3_w, a4_w, a5_w⟩⟩
structure GTables where
  Title : Int
  By : Int
  Release : Int
  Max : Int
  Texts : (List ByteArray)
  Flags : Int
  Props : (List Int)
  Globals : (List Int)
  Things : (List GThing)
  Acts : (List GAct)
  Deeds : (List GDeed)
  Funcs : (List Int)
  Daemons : (List Int)
  Params : (List Int)
  Locals : (List Int)
  deriving DecidableEq
def GTables.enc (x : GTables) : List D := [D.v (.int .i64 x.Title), D.v (.int .i64 x.By), D.v (.int .i64 x.Release), D.v (.int .i64 x.Max), D.sl (encS x.Texts), D.v (.int .i64 x.Flags), D.sl (encI x.Props), D.sl (encI x.Globals), D.sl (x.Things.map GThing.enc), D.sl (x.Acts.map GAct.enc), D.sl (x.Deeds.map GDeed.enc), D.sl (encI x.Funcs), D.sl (encI x.Daemons), D.sl (encI x.Params), D.sl (encI x.Locals)]
@[simp] theorem GTables.enc_length (x : GTables) : x.enc.length = 15 := rfl
@[simp] theorem GTables.enc_0 (x : GTables) : x.enc[0]? = some (D.v (.int .i64 x.Title)) := rfl
@[simp] theorem GTables.encg_0 (x : GTables) (h : 0 < x.enc.length) : x.enc[0] = D.v (.int .i64 x.Title) := rfl
@[simp] theorem GTables.enc_1 (x : GTables) : x.enc[1]? = some (D.v (.int .i64 x.By)) := rfl
@[simp] theorem GTables.encg_1 (x : GTables) (h : 1 < x.enc.length) : x.enc[1] = D.v (.int .i64 x.By) := rfl
@[simp] theorem GTables.enc_2 (x : GTables) : x.enc[2]? = some (D.v (.int .i64 x.Release)) := rfl
@[simp] theorem GTables.encg_2 (x : GTables) (h : 2 < x.enc.length) : x.enc[2] = D.v (.int .i64 x.Release) := rfl
@[simp] theorem GTables.enc_3 (x : GTables) : x.enc[3]? = some (D.v (.int .i64 x.Max)) := rfl
@[simp] theorem GTables.encg_3 (x : GTables) (h : 3 < x.enc.length) : x.enc[3] = D.v (.int .i64 x.Max) := rfl
@[simp] theorem GTables.enc_4 (x : GTables) : x.enc[4]? = some (D.sl (encS x.Texts)) := rfl
@[simp] theorem GTables.encg_4 (x : GTables) (h : 4 < x.enc.length) : x.enc[4] = D.sl (encS x.Texts) := rfl
@[simp] theorem GTables.enc_5 (x : GTables) : x.enc[5]? = some (D.v (.int .i64 x.Flags)) := rfl
@[simp] theorem GTables.encg_5 (x : GTables) (h : 5 < x.enc.length) : x.enc[5] = D.v (.int .i64 x.Flags) := rfl
@[simp] theorem GTables.enc_6 (x : GTables) : x.enc[6]? = some (D.sl (encI x.Props)) := rfl
@[simp] theorem GTables.encg_6 (x : GTables) (h : 6 < x.enc.length) : x.enc[6] = D.sl (encI x.Props) := rfl
@[simp] theorem GTables.enc_7 (x : GTables) : x.enc[7]? = some (D.sl (encI x.Globals)) := rfl
@[simp] theorem GTables.encg_7 (x : GTables) (h : 7 < x.enc.length) : x.enc[7] = D.sl (encI x.Globals) := rfl
@[simp] theorem GTables.enc_8 (x : GTables) : x.enc[8]? = some (D.sl (x.Things.map GThing.enc)) := rfl
@[simp] theorem GTables.encg_8 (x : GTables) (h : 8 < x.enc.length) : x.enc[8] = D.sl (x.Things.map GThing.enc) := rfl
@[simp] theorem GTables.enc_9 (x : GTables) : x.enc[9]? = some (D.sl (x.Acts.map GAct.enc)) := rfl
@[simp] theorem GTables.encg_9 (x : GTables) (h : 9 < x.enc.length) : x.enc[9] = D.sl (x.Acts.map GAct.enc) := rfl
@[simp] theorem GTables.enc_10 (x : GTables) : x.enc[10]? = some (D.sl (x.Deeds.map GDeed.enc)) := rfl
@[simp] theorem GTables.encg_10 (x : GTables) (h : 10 < x.enc.length) : x.enc[10] = D.sl (x.Deeds.map GDeed.enc) := rfl
@[simp] theorem GTables.enc_11 (x : GTables) : x.enc[11]? = some (D.sl (encI x.Funcs)) := rfl
@[simp] theorem GTables.encg_11 (x : GTables) (h : 11 < x.enc.length) : x.enc[11] = D.sl (encI x.Funcs) := rfl
@[simp] theorem GTables.enc_12 (x : GTables) : x.enc[12]? = some (D.sl (encI x.Daemons)) := rfl
@[simp] theorem GTables.encg_12 (x : GTables) (h : 12 < x.enc.length) : x.enc[12] = D.sl (encI x.Daemons) := rfl
@[simp] theorem GTables.enc_13 (x : GTables) : x.enc[13]? = some (D.sl (encI x.Params)) := rfl
@[simp] theorem GTables.encg_13 (x : GTables) (h : 13 < x.enc.length) : x.enc[13] = D.sl (encI x.Params) := rfl
@[simp] theorem GTables.enc_14 (x : GTables) : x.enc[14]? = some (D.sl (encI x.Locals)) := rfl
@[simp] theorem GTables.encg_14 (x : GTables) (h : 14 < x.enc.length) : x.enc[14] = D.sl (encI x.Locals) := rfl
@[simp] theorem GTables.fzV (L : Heap) (x : GTables) : V.fzs L (x.enc.map V.d) = x.enc.map V.d := by simp [GTables.enc, V.fzs, V.fz]
def GTables.zero : GTables := ⟨0, 0, 0, 0, [], 0, [], [], [], [], [], [], [], [], []⟩
theorem GTables.zero_enc : GTables.zero.enc = [D.v (.int .i64 0), D.v (.int .i64 0), D.v (.int .i64 0), D.v (.int .i64 0), D.sl [], D.v (.int .i64 0), D.sl [], D.sl [], D.sl [], D.sl [], D.sl [], D.sl [], D.sl [], D.sl [], D.sl []] := rfl
@[simp] theorem GTables.getZ (o : Option GTables) : (o.map GTables.enc).getD [D.v (.int .i64 0), D.v (.int .i64 0), D.v (.int .i64 0), D.v (.int .i64 0), D.sl [], D.v (.int .i64 0), D.sl [], D.sl [], D.sl [], D.sl [], D.sl [], D.sl [], D.sl [], D.sl [], D.sl []] = (o.getD GTables.zero).enc := by cases o <;> rfl
@[simp] theorem GTables.getV (o : Option GTables) : (o.map (fun x => x.enc.map V.d)).getD [V.d (D.v (.int .i64 0)), V.d (D.v (.int .i64 0)), V.d (D.v (.int .i64 0)), V.d (D.v (.int .i64 0)), V.d (D.sl []), V.d (D.v (.int .i64 0)), V.d (D.sl []), V.d (D.sl []), V.d (D.sl []), V.d (D.sl []), V.d (D.sl []), V.d (D.sl []), V.d (D.sl []), V.d (D.sl []), V.d (D.sl [])] = ((o.getD GTables.zero).enc).map V.d := by cases o <;> rfl
theorem GTables.cellAt (l : List GTables) (i j : Nat) (z : D) (h : GTables.zero.enc[j]? = some z) : cellAt (dd (l.map GTables.enc)) i j [V.d z] = V.d (((l[i]?.getD GTables.zero).enc[j]?).getD default) := by
  unfold Go.Ab.cellAt
  rw [dd_get, List.getElem?_map]
  cases hl : l[i]? with
  | none => simp [h]
  | some a =>
    have hj := (List.getElem?_eq_some_iff.1 h).1
    have hj' : j < a.enc.length := by rw [GTables.enc_length] at hj ⊢; exact hj
    simp only [Option.map_some, List.getElem?_map, List.getElem?_eq_getElem hj', Option.getD_some]
@[simp] theorem GTables.cellAt_0 (l : List GTables) (i : Nat) : Go.Ab.cellAt (dd (l.map GTables.enc)) i 0 [V.d (D.v (.int .i64 0))] = V.d (D.v (.int .i64 (l[i]?.getD GTables.zero).Title)) := (GTables.cellAt l i 0 (D.v (.int .i64 0)) rfl).trans (by simp)
@[simp] theorem GTables.cellAt_1 (l : List GTables) (i : Nat) : Go.Ab.cellAt (dd (l.map GTables.enc)) i 1 [V.d (D.v (.int .i64 0))] = V.d (D.v (.int .i64 (l[i]?.getD GTables.zero).By)) := (GTables.cellAt l i 1 (D.v (.int .i64 0)) rfl).trans (by simp)
@[simp] theorem GTables.cellAt_2 (l : List GTables) (i : Nat) : Go.Ab.cellAt (dd (l.map GTables.enc)) i 2 [V.d (D.v (.int .i64 0))] = V.d (D.v (.int .i64 (l[i]?.getD GTables.zero).Release)) := (GTables.cellAt l i 2 (D.v (.int .i64 0)) rfl).trans (by simp)
@[simp] theorem GTables.cellAt_3 (l : List GTables) (i : Nat) : Go.Ab.cellAt (dd (l.map GTables.enc)) i 3 [V.d (D.v (.int .i64 0))] = V.d (D.v (.int .i64 (l[i]?.getD GTables.zero).Max)) := (GTables.cellAt l i 3 (D.v (.int .i64 0)) rfl).trans (by simp)
@[simp] theorem GTables.cellAt_4 (l : List GTables) (i : Nat) : Go.Ab.cellAt (dd (l.map GTables.enc)) i 4 [V.d (D.sl [])] = V.d (D.sl (encS (l[i]?.getD GTables.zero).Texts)) := (GTables.cellAt l i 4 (D.sl []) rfl).trans (by simp)
@[simp] theorem GTables.cellAt_5 (l : List GTables) (i : Nat) : Go.Ab.cellAt (dd (l.map GTables.enc)) i 5 [V.d (D.v (.int .i64 0))] = V.d (D.v (.int .i64 (l[i]?.getD GTables.zero).Flags)) := (GTables.cellAt l i 5 (D.v (.int .i64 0)) rfl).trans (by simp)
@[simp] theorem GTables.cellAt_6 (l : List GTables) (i : Nat) : Go.Ab.cellAt (dd (l.map GTables.enc)) i 6 [V.d (D.sl [])] = V.d (D.sl (encI (l[i]?.getD GTables.zero).Props)) := (GTables.cellAt l i 6 (D.sl []) rfl).trans (by simp)
@[simp] theorem GTables.cellAt_7 (l : List GTables) (i : Nat) : Go.Ab.cellAt (dd (l.map GTables.enc)) i 7 [V.d (D.sl [])] = V.d (D.sl (encI (l[i]?.getD GTables.zero).Globals)) := (GTables.cellAt l i 7 (D.sl []) rfl).trans (by simp)
@[simp] theorem GTables.cellAt_8 (l : List GTables) (i : Nat) : Go.Ab.cellAt (dd (l.map GTables.enc)) i 8 [V.d (D.sl [])] = V.d (D.sl ((l[i]?.getD GTables.zero).Things.map GThing.enc)) := (GTables.cellAt l i 8 (D.sl []) rfl).trans (by simp)
@[simp] theorem GTables.cellAt_9 (l : List GTables) (i : Nat) : Go.Ab.cellAt (dd (l.map GTables.enc)) i 9 [V.d (D.sl [])] = V.d (D.sl ((l[i]?.getD GTables.zero).Acts.map GAct.enc)) := (GTables.cellAt l i 9 (D.sl []) rfl).trans (by simp)
@[simp] theorem GTables.cellAt_10 (l : List GTables) (i : Nat) : Go.Ab.cellAt (dd (l.map GTables.enc)) i 10 [V.d (D.sl [])] = V.d (D.sl ((l[i]?.getD GTables.zero).Deeds.map GDeed.enc)) := (GTables.cellAt l i 10 (D.sl []) rfl).trans (by simp)
@[simp] theorem GTables.cellAt_11 (l : List GTables) (i : Nat) : Go.Ab.cellAt (dd (l.map GTables.enc)) i 11 [V.d (D.sl [])] = V.d (D.sl (encI (l[i]?.getD GTables.zero).Funcs)) := (GTables.cellAt l i 11 (D.sl []) rfl).trans (by simp)
@[simp] theorem GTables.cellAt_12 (l : List GTables) (i : Nat) : Go.Ab.cellAt (dd (l.map GTables.enc)) i 12 [V.d (D.sl [])] = V.d (D.sl (encI (l[i]?.getD GTables.zero).Daemons)) := (GTables.cellAt l i 12 (D.sl []) rfl).trans (by simp)
@[simp] theorem GTables.cellAt_13 (l : List GTables) (i : Nat) : Go.Ab.cellAt (dd (l.map GTables.enc)) i 13 [V.d (D.sl [])] = V.d (D.sl (encI (l[i]?.getD GTables.zero).Params)) := (GTables.cellAt l i 13 (D.sl []) rfl).trans (by simp)
@[simp] theorem GTables.cellAt_14 (l : List GTables) (i : Nat) : Go.Ab.cellAt (dd (l.map GTables.enc)) i 14 [V.d (D.sl [])] = V.d (D.sl (encI (l[i]?.getD GTables.zero).Locals)) := (GTables.cellAt l i 14 (D.sl []) rfl).trans (by simp)
@[simp] theorem GTables.aggAt (l : List GTables) (i : Nat) : Go.Ab.aggAt (dd (l.map GTables.enc)) i 0 15 [V.d (D.v (.int .i64 0)), V.d (D.v (.int .i64 0)), V.d (D.v (.int .i64 0)), V.d (D.v (.int .i64 0)), V.d (D.sl []), V.d (D.v (.int .i64 0)), V.d (D.sl []), V.d (D.sl []), V.d (D.sl []), V.d (D.sl []), V.d (D.sl []), V.d (D.sl []), V.d (D.sl []), V.d (D.sl []), V.d (D.sl [])] = (l[i]?.getD GTables.zero).enc.map V.d := by
  unfold Go.Ab.aggAt
  rw [dd_get, List.getElem?_map]
  cases l[i]? with
  | none => rfl
  | some x => simp; cases x; rfl
@[simp] theorem GTables.dropAll (x : GTables) : List.drop 15 x.enc = [] := rfl
@[simp] theorem GTables.dropAllv (x : GTables) : List.drop 15 (x.enc.map V.d) = [] := rfl
@[simp] theorem GTables.enc_all (x : GTables) : x.enc.take 15 = x.enc := rfl
@[simp] theorem GTables.enc_allv (x : GTables) : List.take 15 (x.enc.map V.d) = x.enc.map V.d := rfl
def GTables.wf (x : GTables) : Prop := inR .i64 x.Title ∧ inR .i64 x.By ∧ inR .i64 x.Release ∧ inR .i64 x.Max ∧ x.Texts.length * 16 ≤ 140737488351232 ∧ (∀ y0 : ByteArray, y0 ∈ x.Texts → y0.size ≤ 140737488351232) ∧ inR .i64 x.Flags ∧ x.Props.length * 8 ≤ 140737488351232 ∧ (∀ y0 : Int, y0 ∈ x.Props → inR .i64 y0) ∧ x.Globals.length * 8 ≤ 140737488351232 ∧ (∀ y0 : Int, y0 ∈ x.Globals → inR .i64 y0) ∧ x.Things.length * 136 ≤ 140737488351232 ∧ (∀ y0 : GThing, y0 ∈ x.Things → y0.wf) ∧ x.Acts.length * 32 ≤ 140737488351232 ∧ (∀ y0 : GAct, y0 ∈ x.Acts → y0.wf) ∧ x.Deeds.length * 48 ≤ 140737488351232 ∧ (∀ y0 : GDeed, y0 ∈ x.Deeds → y0.wf) ∧ x.Funcs.length * 8 ≤ 140737488351232 ∧ (∀ y0 : Int, y0 ∈ x.Funcs → inR .i64 y0) ∧ x.Daemons.length * 8 ≤ 140737488351232 ∧ (∀ y0 : Int, y0 ∈ x.Daemons → inR .i64 y0) ∧ x.Params.length * 8 ≤ 140737488351232 ∧ (∀ y0 : Int, y0 ∈ x.Params → inR .i64 y0) ∧ x.Locals.length * 8 ≤ 140737488351232 ∧ (∀ y0 : Int, y0 ∈ x.Locals → inR .i64 y0)
theorem GTables.wf_Title {x : GTables} (h : x.wf) : inR .i64 x.Title := h.1
theorem GTables.wf_By {x : GTables} (h : x.wf) : inR .i64 x.By := h.2.1
theorem GTables.wf_Release {x : GTables} (h : x.wf) : inR .i64 x.Release := h.2.2.1
theorem GTables.wf_Max {x : GTables} (h : x.wf) : inR .i64 x.Max := h.2.2.2.1
theorem GTables.wl_Texts {x : GTables} (h : x.wf) : x.Texts.length * 16 ≤ 140737488351232 := h.2.2.2.2.1
theorem GTables.wf_Texts {x : GTables} (h : x.wf) : (∀ y0 : ByteArray, y0 ∈ x.Texts → y0.size ≤ 140737488351232) := h.2.2.2.2.2.1
theorem GTables.wf_Flags {x : GTables} (h : x.wf) : inR .i64 x.Flags := h.2.2.2.2.2.2.1
theorem GTables.wl_Props {x : GTables} (h : x.wf) : x.Props.length * 8 ≤ 140737488351232 := h.2.2.2.2.2.2.2.1
theorem GTables.wf_Props {x : GTables} (h : x.wf) : (∀ y0 : Int, y0 ∈ x.Props → inR .i64 y0) := h.2.2.2.2.2.2.2.2.1
theorem GTables.wl_Globals {x : GTables} (h : x.wf) : x.Globals.length * 8 ≤ 140737488351232 := h.2.2.2.2.2.2.2.2.2.1
theorem GTables.wf_Globals {x : GTables} (h : x.wf) : (∀ y0 : Int, y0 ∈ x.Globals → inR .i64 y0) := h.2.2.2.2.2.2.2.2.2.2.1
theorem GTables.wl_Things {x : GTables} (h : x.wf) : x.Things.length * 136 ≤ 140737488351232 := h.2.2.2.2.2.2.2.2.2.2.2.1
theorem GTables.wf_Things {x : GTables} (h : x.wf) : (∀ y0 : GThing, y0 ∈ x.Things → y0.wf) := h.2.2.2.2.2.2.2.2.2.2.2.2.1
theorem GTables.wl_Acts {x : GTables} (h : x.wf) : x.Acts.length * 32 ≤ 140737488351232 := h.2.2.2.2.2.2.2.2.2.2.2.2.2.1
theorem GTables.wf_Acts {x : GTables} (h : x.wf) : (∀ y0 : GAct, y0 ∈ x.Acts → y0.wf) := h.2.2.2.2.2.2.2.2.2.2.2.2.2.2.1
theorem GTables.wl_Deeds {x : GTables} (h : x.wf) : x.Deeds.length * 48 ≤ 140737488351232 := h.2.2.2.2.2.2.2.2.2.2.2.2.2.2.2.1
theorem GTables.wf_Deeds {x : GTables} (h : x.wf) : (∀ y0 : GDeed, y0 ∈ x.Deeds → y0.wf) := h.2.2.2.2.2.2.2.2.2.2.2.2.2.2.2.2.1
theorem GTables.wl_Funcs {x : GTables} (h : x.wf) : x.Funcs.length * 8 ≤ 140737488351232 := h.2.2.2.2.2.2.2.2.2.2.2.2.2.2.2.2.2.1
theorem GTables.wf_Funcs {x : GTables} (h : x.wf) : (∀ y0 : Int, y0 ∈ x.Funcs → inR .i64 y0) := h.2.2.2.2.2.2.2.2.2.2.2.2.2.2.2.2.2.2.1
theorem GTables.wl_Daemons {x : GTables} (h : x.wf) : x.Daemons.length * 8 ≤ 140737488351232 := h.2.2.2.2.2.2.2.2.2.2.2.2.2.2.2.2.2.2.2.1
theorem GTables.wf_Daemons {x : GTables} (h : x.wf) : (∀ y0 : Int, y0 ∈ x.Daemons → inR .i64 y0) := h.2.2.2.2.2.2.2.2.2.2.2.2.2.2.2.2.2.2.2.2.1
theorem GTables.wl_Params {x : GTables} (h : x.wf) : x.Params.length * 8 ≤ 140737488351232 := h.2.2.2.2.2.2.2.2.2.2.2.2.2.2.2.2.2.2.2.2.2.1
theorem GTables.wf_Params {x : GTables} (h : x.wf) : (∀ y0 : Int, y0 ∈ x.Params → inR .i64 y0) := h.2.2.2.2.2.2.2.2.2.2.2.2.2.2.2.2.2.2.2.2.2.2.1
theorem GTables.wl_Locals {x : GTables} (h : x.wf) : x.Locals.length * 8 ≤ 140737488351232 := h.2.2.2.2.2.2.2.2.2.2.2.2.2.2.2.2.2.2.2.2.2.2.2.1
theorem GTables.wf_Locals {x : GTables} (h : x.wf) : (∀ y0 : Int, y0 ∈ x.Locals → inR .i64 y0) := h.2.2.2.2.2.2.2.2.2.2.2.2.2.2.2.2.2.2.2.2.2.2.2.2
theorem tyK_28 : tyK Go.Proofs.Try.prog 28 = .st [3, 3, 3, 3, 22, 3, 23, 23, 24, 25, 26, 23, 23, 23, 23] := by kernel_rfl
theorem tyK_24 : tyK Go.Proofs.Try.prog 24 = .sl 38 136 := by kernel_rfl
theorem tyK_25 : tyK Go.Proofs.Try.prog 25 = .sl 115 32 := by kernel_rfl
theorem tyK_26 : tyK Go.Proofs.Try.prog 26 = .sl 119 48 := by kernel_rfl
theorem GTables.of {ys : List D} (h : HasT Go.Proofs.Try.prog 28 ys) : ∃ x : GTables, ys = x.enc ∧ x.wf := by
  have h' := HasT.st_inv h tyK_28
  obtain ⟨a0_, r0, hr0, t0, h0⟩ := h'
  obtain ⟨a1_, r1, hr1, t1, h1⟩ := h0
  obtain ⟨a2_, r2, hr2, t2, h2⟩ := h1
  obtain ⟨a3_, r3, hr3, t3, h3⟩ := h2
  obtain ⟨a4_, r4, hr4, t4, h4⟩ := h3
  obtain ⟨a5_, r5, hr5, t5, h5⟩ := h4
  obtain ⟨a6_, r6, hr6, t6, h6⟩ := h5
  obtain ⟨a7_, r7, hr7, t7, h7⟩ := h6
  obtain ⟨a8_, r8, hr8, t8, h8⟩ := h7
  obtain ⟨a9_, r9, hr9, t9, h9⟩ := h8
  obtain ⟨a10_, r10, hr10, t10, h10⟩ := h9
  obtain ⟨a11_, r11, hr11, t11, h11⟩ := h10
  obtain ⟨a12_, r12, hr12, t12, h12⟩ := h11
  obtain ⟨a13_, r13, hr13, t13, h13⟩ := h12
  obtain ⟨a14_, r14, hr14, t14, h14⟩ := h13
  simp only [HasTs] at h14
  subst h14
  subst hr14
  subst hr13
  subst hr12
  subst hr11
  subst hr10
  subst hr9
  subst hr8
  subst hr7
  subst hr6
  subst hr5
  subst hr4
  subst hr3
  subst hr2
  subst hr1
  subst hr0
  obtain ⟨a0_', rfl, a0_w⟩ := HasT.int_inv t0 tyK_3
  obtain ⟨a1_', rfl, a1_w⟩ := HasT.int_inv t1 tyK_3
  obtain ⟨a2_', rfl, a2_w⟩ := HasT.int_inv t2 tyK_3
  obtain ⟨a3_', rfl, a3_w⟩ := HasT.int_inv t3 tyK_3
  obtain ⟨a4_0, rfl, a4_h, a4_l, a4_w⟩ := HasT.sl_inv t4 tyK_22
  obtain ⟨a4_', rfl, a4_a⟩ := map_of (f := (fun y => [D.v (.string y)])) (p := fun (y : ByteArray) => y.size ≤ 140737488351232) (fun a4_e hx => by
    have a4_q := a4_h a4_e hx
    obtain ⟨a4_e', rfl, a4_ew⟩ := HasT.str_inv a4_q tyK_9
    exact ⟨a4_e', rfl, a4_ew⟩)
  obtain ⟨a5_', rfl, a5_w⟩ := HasT.int_inv t5 tyK_3
  obtain ⟨a6_0, rfl, a6_h, a6_l, a6_w⟩ := HasT.sl_inv t6 tyK_23
  obtain ⟨a6_', rfl, a6_a⟩ := map_of (f := (fun y => [D.v (.int .i64 y)])) (p := fun (y : Int) => inR .i64 y) (fun a6_e hx => by
    have a6_q := a6_h a6_e hx
    obtain ⟨a6_e', rfl, a6_ew⟩ := HasT.int_inv a6_q tyK_3
    exact ⟨a6_e', rfl, a6_ew⟩)
  obtain ⟨a7_0, rfl, a7_h, a7_l, a7_w⟩ := HasT.sl_inv t7 tyK_23
  obtain ⟨a7_', rfl, a7_a⟩ := map_of (f := (fun y => [D.v (.int .i64 y)])) (p := fun (y : Int) => inR .i64 y) (fun a7_e hx => by
    have a7_q := a7_h a7_e hx
    obtain ⟨a7_e', rfl, a7_ew⟩ := HasT.int_inv a7_q tyK_3
    exact ⟨a7_e', rfl, a7_ew⟩)
  obtain ⟨a8_0, rfl, a8_h, a8_l, a8_w⟩ := HasT.sl_inv t8 tyK_24
  obtain ⟨a8_', rfl, a8_a⟩ := map_of (f := GThing.enc) (p := fun (y : GThing) => y.wf) (fun a8_e hx => by
    have a8_q := a8_h a8_e hx
    obtain ⟨a8_e', rfl, a8_ew⟩ := GThing.of a8_q
    exact ⟨a8_e', rfl, a8_ew⟩)
  obtain ⟨a9_0, rfl, a9_h, a9_l, a9_w⟩ := HasT.sl_inv t9 tyK_25
  obtain ⟨a9_', rfl, a9_a⟩ := map_of (f := GAct.enc) (p := fun (y : GAct) => y.wf) (fun a9_e hx => by
    have a9_q := a9_h a9_e hx
    obtain ⟨a9_e', rfl, a9_ew⟩ := GAct.of a9_q
    exact ⟨a9_e', rfl, a9_ew⟩)
  obtain ⟨a10_0, rfl, a10_h, a10_l, a10_w⟩ := HasT.sl_inv t10 tyK_26
  obtain ⟨a10_', rfl, a10_a⟩ := map_of (f := GDeed.enc) (p := fun (y : GDeed) => y.wf) (fun a10_e hx => by
    have a10_q := a10_h a10_e hx
    obtain ⟨a10_e', rfl, a10_ew⟩ := GDeed.of a10_q
    exact ⟨a10_e', rfl, a10_ew⟩)
  obtain ⟨a11_0, rfl, a11_h, a11_l, a11_w⟩ := HasT.sl_inv t11 tyK_23
  obtain ⟨a11_', rfl, a11_a⟩ := map_of (f := (fun y => [D.v (.int .i64 y)])) (p := fun (y : Int) => inR .i64 y) (fun a11_e hx => by
    have a11_q := a11_h a11_e hx
    obtain ⟨a11_e', rfl, a11_ew⟩ := HasT.int_inv a11_q tyK_3
    exact ⟨a11_e', rfl, a11_ew⟩)
  obtain ⟨a12_0, rfl, a12_h, a12_l, a12_w⟩ := HasT.sl_inv t12 tyK_23
  obtain ⟨a12_', rfl, a12_a⟩ := map_of (f := (fun y => [D.v (.int .i64 y)])) (p := fun (y : Int) => inR .i64 y) (fun a12_e hx => by
    have a12_q := a12_h a12_e hx
    obtain ⟨a12_e', rfl, a12_ew⟩ := HasT.int_inv a12_q tyK_3
    exact ⟨a12_e', rfl, a12_ew⟩)
  obtain ⟨a13_0, rfl, a13_h, a13_l, a13_w⟩ := HasT.sl_inv t13 tyK_23
  obtain ⟨a13_', rfl, a13_a⟩ := map_of (f := (fun y => [D.v (.int .i64 y)])) (p := fun (y : Int) => inR .i64 y) (fun a13_e hx => by
    have a13_q := a13_h a13_e hx
    obtain ⟨a13_e', rfl, a13_ew⟩ := HasT.int_inv a13_q tyK_3
    exact ⟨a13_e', rfl, a13_ew⟩)
  obtain ⟨a14_0, rfl, a14_h, a14_l, a14_w⟩ := HasT.sl_inv t14 tyK_23
  obtain ⟨a14_', rfl, a14_a⟩ := map_of (f := (fun y => [D.v (.int .i64 y)])) (p := fun (y : Int) => inR .i64 y) (fun a14_e hx => by
    have a14_q := a14_h a14_e hx
    obtain ⟨a14_e', rfl, a14_ew⟩ := HasT.int_inv a14_q tyK_3
    exact ⟨a14_e', rfl, a14_ew⟩)
  exact ⟨⟨a0_', a1_', a2_', a3_', a4_', a5_', a6_', a7_', a8_', a9_', a10_', a11_', a12_', a13_', a14_'⟩, rfl, ⟨a0_w, a1_w, a2_w, a3_w, (by simpa using a4_w), a4_a, a5_w, (by simpa using a6_w), a6_a, (by simpa using a7_w), a7_a, (by simpa using a8_w), a8_a, (by simpa using a9_w), a9_a, (by simpa using a10_w), a10_a, (by simpa using a11_w), a11_a, (by simpa using a12_w), a12_a, (by simpa using a13_w), a13_a, (by simpa using a14_w), a14_a⟩⟩
inductive GExpr where
  | mk (Kind : Int) (Op : Int) (Num : Int) (Name : ByteArray) (Args : (List GExpr))
def GExpr.Kind : GExpr → Int
  | .mk a0 a1 a2 a3 a4 => a0
def GExpr.Op : GExpr → Int
  | .mk a0 a1 a2 a3 a4 => a1
def GExpr.Num : GExpr → Int
  | .mk a0 a1 a2 a3 a4 => a2
def GExpr.Name : GExpr → ByteArray
  | .mk a0 a1 a2 a3 a4 => a3
def GExpr.Args : GExpr → (List GExpr)
  | .mk a0 a1 a2 a3 a4 => a4
mutual
def GExpr.enc : GExpr → List D
  | .mk a0 a1 a2 a3 a4 => [D.v (.int .i64 a0), D.v (.int .i64 a1), D.v (.int .i64 a2), D.v (.string a3), D.sl (GExpr.encs a4)]
def GExpr.encs : List GExpr → List (List D)
  | [] => []
  | x :: l => x.enc :: GExpr.encs l
end
theorem GExpr.encs_eq : ∀ l : List GExpr, GExpr.encs l = l.map GExpr.enc
  | [] => rfl
  | x :: l => by rw [GExpr.encs, GExpr.encs_eq l]; rfl
theorem GExpr.enc_eq (x : GExpr) : x.enc = [D.v (.int .i64 x.Kind), D.v (.int .i64 x.Op), D.v (.int .i64 x.Num), D.v (.string x.Name), D.sl (x.Args.map GExpr.enc)] := by
  cases x
  simp only [GExpr.enc, GExpr.encs_eq]
  rfl
@[simp] theorem GExpr.enc_length (x : GExpr) : x.enc.length = 5 := by cases x; rfl
@[simp] theorem GExpr.enc_0 (x : GExpr) : x.enc[0]? = some (D.v (.int .i64 x.Kind)) := by rw [GExpr.enc_eq]; rfl
@[simp] theorem GExpr.encg_0 (x : GExpr) (h : 0 < x.enc.length) : x.enc[0] = D.v (.int .i64 x.Kind) := by
  have := GExpr.enc_0 x
  rw [List.getElem?_eq_getElem h] at this
  exact Option.some.inj this
@[simp] theorem GExpr.enc_1 (x : GExpr) : x.enc[1]? = some (D.v (.int .i64 x.Op)) := by rw [GExpr.enc_eq]; rfl
@[simp] theorem GExpr.encg_1 (x : GExpr) (h : 1 < x.enc.length) : x.enc[1] = D.v (.int .i64 x.Op) := by
  have := GExpr.enc_1 x
  rw [List.getElem?_eq_getElem h] at this
  exact Option.some.inj this
@[simp] theorem GExpr.enc_2 (x : GExpr) : x.enc[2]? = some (D.v (.int .i64 x.Num)) := by rw [GExpr.enc_eq]; rfl
@[simp] theorem GExpr.encg_2 (x : GExpr) (h : 2 < x.enc.length) : x.enc[2] = D.v (.int .i64 x.Num) := by
  have := GExpr.enc_2 x
  rw [List.getElem?_eq_getElem h] at this
  exact Option.some.inj this
@[simp] theorem GExpr.enc_3 (x : GExpr) : x.enc[3]? = some (D.v (.string x.Name)) := by rw [GExpr.enc_eq]; rfl
@[simp] theorem GExpr.encg_3 (x : GExpr) (h : 3 < x.enc.length) : x.enc[3] = D.v (.string x.Name) := by
  have := GExpr.enc_3 x
  rw [List.getElem?_eq_getElem h] at this
  exact Option.some.inj this
@[simp] theorem GExpr.enc_4 (x : GExpr) : x.enc[4]? = some (D.sl (x.Args.map GExpr.enc)) := by rw [GExpr.enc_eq]; rfl
@[simp] theorem GExpr.encg_4 (x : GExpr) (h : 4 < x.enc.length) : x.enc[4] = D.sl (x.Args.map GExpr.enc) := by
  have := GExpr.enc_4 x
  rw [List.getElem?_eq_getElem h] at this
  exact Option.some.inj this
@[simp] theorem GExpr.fzV (L : Heap) (x : GExpr) : V.fzs L (x.enc.map V.d) = x.enc.map V.d := by simp [GExpr.enc_eq, V.fzs, V.fz]
def GExpr.zero : GExpr := .mk (0) (0) (0) (⟨#[]⟩) ([])
theorem GExpr.zero_enc : GExpr.zero.enc = [D.v (.int .i64 0), D.v (.int .i64 0), D.v (.int .i64 0), D.v (.string ⟨#[]⟩), D.sl []] := rfl
@[simp] theorem GExpr.getZ (o : Option GExpr) : (o.map GExpr.enc).getD [D.v (.int .i64 0), D.v (.int .i64 0), D.v (.int .i64 0), D.v (.string ⟨#[]⟩), D.sl []] = (o.getD GExpr.zero).enc := by cases o <;> rfl
@[simp] theorem GExpr.getV (o : Option GExpr) : (o.map (fun x => x.enc.map V.d)).getD [V.d (D.v (.int .i64 0)), V.d (D.v (.int .i64 0)), V.d (D.v (.int .i64 0)), V.d (D.v (.string ⟨#[]⟩)), V.d (D.sl [])] = ((o.getD GExpr.zero).enc).map V.d := by cases o <;> rfl
theorem GExpr.cellAt (l : List GExpr) (i j : Nat) (z : D) (h : GExpr.zero.enc[j]? = some z) : cellAt (dd (l.map GExpr.enc)) i j [V.d z] = V.d (((l[i]?.getD GExpr.zero).enc[j]?).getD default) := by
  unfold Go.Ab.cellAt
  rw [dd_get, List.getElem?_map]
  cases hl : l[i]? with
  | none => simp [h]
  | some a =>
    have hj := (List.getElem?_eq_some_iff.1 h).1
    have hj' : j < a.enc.length := by rw [GExpr.enc_length] at hj ⊢; exact hj
    simp only [Option.map_some, List.getElem?_map, List.getElem?_eq_getElem hj', Option.getD_some]
@[simp] theorem GExpr.cellAt_0 (l : List GExpr) (i : Nat) : Go.Ab.cellAt (dd (l.map GExpr.enc)) i 0 [V.d (D.v (.int .i64 0))] = V.d (D.v (.int .i64 (l[i]?.getD GExpr.zero).Kind)) := (GExpr.cellAt l i 0 (D.v (.int .i64 0)) rfl).trans (by simp)
@[simp] theorem GExpr.cellAt_1 (l : List GExpr) (i : Nat) : Go.Ab.cellAt (dd (l.map GExpr.enc)) i 1 [V.d (D.v (.int .i64 0))] = V.d (D.v (.int .i64 (l[i]?.getD GExpr.zero).Op)) := (GExpr.cellAt l i 1 (D.v (.int .i64 0)) rfl).trans (by simp)
@[simp] theorem GExpr.cellAt_2 (l : List GExpr) (i : Nat) : Go.Ab.cellAt (dd (l.map GExpr.enc)) i 2 [V.d (D.v (.int .i64 0))] = V.d (D.v (.int .i64 (l[i]?.getD GExpr.zero).Num)) := (GExpr.cellAt l i 2 (D.v (.int .i64 0)) rfl).trans (by simp)
@[simp] theorem GExpr.cellAt_3 (l : List GExpr) (i : Nat) : Go.Ab.cellAt (dd (l.map GExpr.enc)) i 3 [V.d (D.v (.string ⟨#[]⟩))] = V.d (D.v (.string (l[i]?.getD GExpr.zero).Name)) := (GExpr.cellAt l i 3 (D.v (.string ⟨#[]⟩)) rfl).trans (by simp)
@[simp] theorem GExpr.cellAt_4 (l : List GExpr) (i : Nat) : Go.Ab.cellAt (dd (l.map GExpr.enc)) i 4 [V.d (D.sl [])] = V.d (D.sl ((l[i]?.getD GExpr.zero).Args.map GExpr.enc)) := (GExpr.cellAt l i 4 (D.sl []) rfl).trans (by simp)
@[simp] theorem GExpr.aggAt (l : List GExpr) (i : Nat) : Go.Ab.aggAt (dd (l.map GExpr.enc)) i 0 5 [V.d (D.v (.int .i64 0)), V.d (D.v (.int .i64 0)), V.d (D.v (.int .i64 0)), V.d (D.v (.string ⟨#[]⟩)), V.d (D.sl [])] = (l[i]?.getD GExpr.zero).enc.map V.d := by
  unfold Go.Ab.aggAt
  rw [dd_get, List.getElem?_map]
  cases l[i]? with
  | none => rfl
  | some x => simp; cases x; rfl
@[simp] theorem GExpr.dropAll (x : GExpr) : List.drop 5 x.enc = [] := by cases x; rfl
@[simp] theorem GExpr.dropAllv (x : GExpr) : List.drop 5 (x.enc.map V.d) = [] := by cases x; rfl
@[simp] theorem GExpr.enc_all (x : GExpr) : x.enc.take 5 = x.enc := by cases x; rfl
@[simp] theorem GExpr.enc_allv (x : GExpr) : List.take 5 (x.enc.map V.d) = x.enc.map V.d := by cases x; rfl
mutual
def GExpr.wf : GExpr → Prop
  | .mk a0 a1 a2 a3 a4 => inR .i64 a0 ∧ inR .i64 a1 ∧ inR .i64 a2 ∧ a3.size ≤ 140737488351232 ∧ a4.length * 64 ≤ 140737488351232 ∧ GExpr.wfs a4
def GExpr.wfs : List GExpr → Prop
  | [] => True
  | x :: l => x.wf ∧ GExpr.wfs l
end
theorem GExpr.wfs_iff : ∀ l : List GExpr, GExpr.wfs l ↔ ∀ y ∈ l, y.wf
  | [] => by simp [GExpr.wfs]
  | x :: l => by rw [GExpr.wfs, GExpr.wfs_iff l]; simp
theorem GExpr.wf_iff (x : GExpr) : x.wf ↔ inR .i64 x.Kind ∧ inR .i64 x.Op ∧ inR .i64 x.Num ∧ x.Name.size ≤ 140737488351232 ∧ x.Args.length * 64 ≤ 140737488351232 ∧ (∀ y0 : GExpr, y0 ∈ x.Args → y0.wf) := by
  cases x
  simp only [GExpr.wf, GExpr.wfs_iff]
  rfl
theorem GExpr.wf_Kind {x : GExpr} (h : x.wf) : inR .i64 x.Kind := ((GExpr.wf_iff x).1 h).1
theorem GExpr.wf_Op {x : GExpr} (h : x.wf) : inR .i64 x.Op := ((GExpr.wf_iff x).1 h).2.1
theorem GExpr.wf_Num {x : GExpr} (h : x.wf) : inR .i64 x.Num := ((GExpr.wf_iff x).1 h).2.2.1
theorem GExpr.wf_Name {x : GExpr} (h : x.wf) : x.Name.size ≤ 140737488351232 := ((GExpr.wf_iff x).1 h).2.2.2.1
theorem GExpr.wl_Args {x : GExpr} (h : x.wf) : x.Args.length * 64 ≤ 140737488351232 := ((GExpr.wf_iff x).1 h).2.2.2.2.1
theorem GExpr.wf_Args {x : GExpr} (h : x.wf) : (∀ y0 : GExpr, y0 ∈ x.Args → y0.wf) := ((GExpr.wf_iff x).1 h).2.2.2.2.2
theorem tyK_53 : tyK Go.Proofs.Try.prog 53 = .st [3, 3, 3, 9, 51] := by kernel_rfl
theorem tyK_51 : tyK Go.Proofs.Try.prog 51 = .sl 53 64 := by kernel_rfl
theorem GExpr.of' : ∀ (n : Nat) {ys : List D}, SizeOf.sizeOf ys < n → HasT Go.Proofs.Try.prog 53 ys → ∃ x : GExpr, ys = x.enc ∧ x.wf := by
  intro n
  induction n with
  | zero => intro ys h; omega
  | succ n ih =>
  intro ys hsz h
  have h' := HasT.st_inv h tyK_53
  obtain ⟨a0_, r0, hr0, t0, h0⟩ := h'
  obtain ⟨a1_, r1, hr1, t1, h1⟩ := h0
  obtain ⟨a2_, r2, hr2, t2, h2⟩ := h1
  obtain ⟨a3_, r3, hr3, t3, h3⟩ := h2
  obtain ⟨a4_, r4, hr4, t4, h4⟩ := h3
  simp only [HasTs] at h4
  subst h4
  subst hr4
  subst hr3
  subst hr2
  subst hr1
  subst hr0
  obtain ⟨a0_', rfl, a0_w⟩ := HasT.int_inv t0 tyK_3
  obtain ⟨a1_', rfl, a1_w⟩ := HasT.int_inv t1 tyK_3
  obtain ⟨a2_', rfl, a2_w⟩ := HasT.int_inv t2 tyK_3
  obtain ⟨a3_', rfl, a3_w⟩ := HasT.str_inv t3 tyK_9
  obtain ⟨a4_0, rfl, a4_h, a4_l, a4_w⟩ := HasT.sl_inv t4 tyK_51
  obtain ⟨a4_', rfl, a4_a⟩ := map_of (f := GExpr.enc) (p := GExpr.wf) (fun a4_e hx => ih (by have hlt := List.sizeOf_lt_of_mem hx; simp at hsz; omega) (a4_h a4_e hx))
  exact ⟨.mk a0_' a1_' a2_' a3_' a4_', by rw [GExpr.enc_eq]; rfl, by rw [GExpr.wf]; exact ⟨a0_w, a1_w, a2_w, a3_w, (by simpa using a4_w), (GExpr.wfs_iff _).2 a4_a⟩⟩
theorem GExpr.of {ys : List D} (h : HasT Go.Proofs.Try.prog 53 ys) : ∃ x : GExpr, ys = x.enc ∧ x.wf := GExpr.of' _ (Nat.lt_succ_self _) h
inductive GStmt where
  | mk (Kind : Int) (Num : Int) (Name : ByteArray) (Args : (List GExpr)) (Body : (List GStmt)) (Else : (List GStmt))
def GStmt.Kind : GStmt → Int
  | .mk a0 a1 a2 a3 a4 a5 => a0
def GStmt.Num : GStmt → Int
  | .mk a0 a1 a2 a3 a4 a5 => a1
def GStmt.Name : GStmt → ByteArray
  | .mk a0 a1 a2 a3 a4 a5 => a2
def GStmt.Args : GStmt → (List GExpr)
  | .mk a0 a1 a2 a3 a4 a5 => a3
def GStmt.Body : GStmt → (List GStmt)
  | .mk a0 a1 a2 a3 a4 a5 => a4
def GStmt.Else : GStmt → (List GStmt)
  | .mk a0 a1 a2 a3 a4 a5 => a5
mutual
def GStmt.enc : GStmt → List D
  | .mk a0 a1 a2 a3 a4 a5 => [D.v (.int .i64 a0), D.v (.int .i64 a1), D.v (.string a2), D.sl (a3.map GExpr.enc), D.sl (GStmt.encs a4), D.sl (GStmt.encs a5)]
def GStmt.encs : List GStmt → List (List D)
  | [] => []
  | x :: l => x.enc :: GStmt.encs l
end
theorem GStmt.encs_eq : ∀ l : List GStmt, GStmt.encs l = l.map GStmt.enc
  | [] => rfl
  | x :: l => by rw [GStmt.encs, GStmt.encs_eq l]; rfl
theorem GStmt.enc_eq (x : GStmt) : x.enc = [D.v (.int .i64 x.Kind), D.v (.int .i64 x.Num), D.v (.string x.Name), D.sl (x.Args.map GExpr.enc), D.sl (x.Body.map GStmt.enc), D.sl (x.Else.map GStmt.enc)] := by
  cases x
  simp only [GStmt.enc, GStmt.encs_eq]
  rfl
@[simp] theorem GStmt.enc_length (x : GStmt) : x.enc.length = 6 := by cases x; rfl
@[simp] theorem GStmt.enc_0 (x : GStmt) : x.enc[0]? = some (D.v (.int .i64 x.Kind)) := by rw [GStmt.enc_eq]; rfl
@[simp] theorem GStmt.encg_0 (x : GStmt) (h : 0 < x.enc.length) : x.enc[0] = D.v (.int .i64 x.Kind) := by
  have := GStmt.enc_0 x
  rw [List.getElem?_eq_getElem h] at this
  exact Option.some.inj this
@[simp] theorem GStmt.enc_1 (x : GStmt) : x.enc[1]? = some (D.v (.int .i64 x.Num)) := by rw [GStmt.enc_eq]; rfl
@[simp] theorem GStmt.encg_1 (x : GStmt) (h : 1 < x.enc.length) : x.enc[1] = D.v (.int .i64 x.Num) := by
  have := GStmt.enc_1 x
  rw [List.getElem?_eq_getElem h] at this
  exact Option.some.inj this
@[simp] theorem GStmt.enc_2 (x : GStmt) : x.enc[2]? = some (D.v (.string x.Name)) := by rw [GStmt.enc_eq]; rfl
@[simp] theorem GStmt.encg_2 (x : GStmt) (h : 2 < x.enc.length) : x.enc[2] = D.v (.string x.Name) := by
  have := GStmt.enc_2 x
  rw [List.getElem?_eq_getElem h] at this
  exact Option.some.inj this
@[simp] theorem GStmt.enc_3 (x : GStmt) : x.enc[3]? = some (D.sl (x.Args.map GExpr.enc)) := by rw [GStmt.enc_eq]; rfl
@[simp] theorem GStmt.encg_3 (x : GStmt) (h : 3 < x.enc.length) : x.enc[3] = D.sl (x.Args.map GExpr.enc) := by
  have := GStmt.enc_3 x
  rw [List.getElem?_eq_getElem h] at this
  exact Option.some.inj this
@[simp] theorem GStmt.enc_4 (x : GStmt) : x.enc[4]? = some (D.sl (x.Body.map GStmt.enc)) := by rw [GStmt.enc_eq]; rfl
@[simp] theorem GStmt.encg_4 (x : GStmt) (h : 4 < x.enc.length) : x.enc[4] = D.sl (x.Body.map GStmt.enc) := by
  have := GStmt.enc_4 x
  rw [List.getElem?_eq_getElem h] at this
  exact Option.some.inj this
@[simp] theorem GStmt.enc_5 (x : GStmt) : x.enc[5]? = some (D.sl (x.Else.map GStmt.enc)) := by rw [GStmt.enc_eq]; rfl
@[simp] theorem GStmt.encg_5 (x : GStmt) (h : 5 < x.enc.length) : x.enc[5] = D.sl (x.Else.map GStmt.enc) := by
  have := GStmt.enc_5 x
  rw [List.getElem?_eq_getElem h] at this
  exact Option.some.inj this
@[simp] theorem GStmt.fzV (L : Heap) (x : GStmt) : V.fzs L (x.enc.map V.d) = x.enc.map V.d := by simp [GStmt.enc_eq, V.fzs, V.fz]
def GStmt.zero : GStmt := .mk (0) (0) (⟨#[]⟩) ([]) ([]) ([])
theorem GStmt.zero_enc : GStmt.zero.enc = [D.v (.int .i64 0), D.v (.int .i64 0), D.v (.string ⟨#[]⟩), D.sl [], D.sl [], D.sl []] := rfl
@[simp] theorem GStmt.getZ (o : Option GStmt) : (o.map GStmt.enc).getD [D.v (.int .i64 0), D.v (.int .i64 0), D.v (.string ⟨#[]⟩), D.sl [], D.sl [], D.sl []] = (o.getD GStmt.zero).enc := by cases o <;> rfl
@[simp] theorem GStmt.getV (o : Option GStmt) : (o.map (fun x => x.enc.map V.d)).getD [V.d (D.v (.int .i64 0)), V.d (D.v (.int .i64 0)), V.d (D.v (.string ⟨#[]⟩)), V.d (D.sl []), V.d (D.sl []), V.d (D.sl [])] = ((o.getD GStmt.zero).enc).map V.d := by cases o <;> rfl
theorem GStmt.cellAt (l : List GStmt) (i j : Nat) (z : D) (h : GStmt.zero.enc[j]? = some z) : cellAt (dd (l.map GStmt.enc)) i j [V.d z] = V.d (((l[i]?.getD GStmt.zero).enc[j]?).getD default) := by
  unfold Go.Ab.cellAt
  rw [dd_get, List.getElem?_map]
  cases hl : l[i]? with
  | none => simp [h]
  | some a =>
    have hj := (List.getElem?_eq_some_iff.1 h).1
    have hj' : j < a.enc.length := by rw [GStmt.enc_length] at hj ⊢; exact hj
    simp only [Option.map_some, List.getElem?_map, List.getElem?_eq_getElem hj', Option.getD_some]
@[simp] theorem GStmt.cellAt_0 (l : List GStmt) (i : Nat) : Go.Ab.cellAt (dd (l.map GStmt.enc)) i 0 [V.d (D.v (.int .i64 0))] = V.d (D.v (.int .i64 (l[i]?.getD GStmt.zero).Kind)) := (GStmt.cellAt l i 0 (D.v (.int .i64 0)) rfl).trans (by simp)
@[simp] theorem GStmt.cellAt_1 (l : List GStmt) (i : Nat) : Go.Ab.cellAt (dd (l.map GStmt.enc)) i 1 [V.d (D.v (.int .i64 0))] = V.d (D.v (.int .i64 (l[i]?.getD GStmt.zero).Num)) := (GStmt.cellAt l i 1 (D.v (.int .i64 0)) rfl).trans (by simp)
@[simp] theorem GStmt.cellAt_2 (l : List GStmt) (i : Nat) : Go.Ab.cellAt (dd (l.map GStmt.enc)) i 2 [V.d (D.v (.string ⟨#[]⟩))] = V.d (D.v (.string (l[i]?.getD GStmt.zero).Name)) := (GStmt.cellAt l i 2 (D.v (.string ⟨#[]⟩)) rfl).trans (by simp)
@[simp] theorem GStmt.cellAt_3 (l : List GStmt) (i : Nat) : Go.Ab.cellAt (dd (l.map GStmt.enc)) i 3 [V.d (D.sl [])] = V.d (D.sl ((l[i]?.getD GStmt.zero).Args.map GExpr.enc)) := (GStmt.cellAt l i 3 (D.sl []) rfl).trans (by simp)
@[simp] theorem GStmt.cellAt_4 (l : List GStmt) (i : Nat) : Go.Ab.cellAt (dd (l.map GStmt.enc)) i 4 [V.d (D.sl [])] = V.d (D.sl ((l[i]?.getD GStmt.zero).Body.map GStmt.enc)) := (GStmt.cellAt l i 4 (D.sl []) rfl).trans (by simp)
@[simp] theorem GStmt.cellAt_5 (l : List GStmt) (i : Nat) : Go.Ab.cellAt (dd (l.map GStmt.enc)) i 5 [V.d (D.sl [])] = V.d (D.sl ((l[i]?.getD GStmt.zero).Else.map GStmt.enc)) := (GStmt.cellAt l i 5 (D.sl []) rfl).trans (by simp)
@[simp] theorem GStmt.aggAt (l : List GStmt) (i : Nat) : Go.Ab.aggAt (dd (l.map GStmt.enc)) i 0 6 [V.d (D.v (.int .i64 0)), V.d (D.v (.int .i64 0)), V.d (D.v (.string ⟨#[]⟩)), V.d (D.sl []), V.d (D.sl []), V.d (D.sl [])] = (l[i]?.getD GStmt.zero).enc.map V.d := by
  unfold Go.Ab.aggAt
  rw [dd_get, List.getElem?_map]
  cases l[i]? with
  | none => rfl
  | some x => simp; cases x; rfl
@[simp] theorem GStmt.dropAll (x : GStmt) : List.drop 6 x.enc = [] := by cases x; rfl
@[simp] theorem GStmt.dropAllv (x : GStmt) : List.drop 6 (x.enc.map V.d) = [] := by cases x; rfl
@[simp] theorem GStmt.enc_all (x : GStmt) : x.enc.take 6 = x.enc := by cases x; rfl
@[simp] theorem GStmt.enc_allv (x : GStmt) : List.take 6 (x.enc.map V.d) = x.enc.map V.d := by cases x; rfl
mutual
def GStmt.wf : GStmt → Prop
  | .mk a0 a1 a2 a3 a4 a5 => inR .i64 a0 ∧ inR .i64 a1 ∧ a2.size ≤ 140737488351232 ∧ a3.length * 64 ≤ 140737488351232 ∧ (∀ y0 : GExpr, y0 ∈ a3 → y0.wf) ∧ a4.length * 104 ≤ 140737488351232 ∧ GStmt.wfs a4 ∧ a5.length * 104 ≤ 140737488351232 ∧ GStmt.wfs a5
def GStmt.wfs : List GStmt → Prop
  | [] => True
  | x :: l => x.wf ∧ GStmt.wfs l
end
theorem GStmt.wfs_iff : ∀ l : List GStmt, GStmt.wfs l ↔ ∀ y ∈ l, y.wf
  | [] => by simp [GStmt.wfs]
  | x :: l => by rw [GStmt.wfs, GStmt.wfs_iff l]; simp
theorem GStmt.wf_iff (x : GStmt) : x.wf ↔ inR .i64 x.Kind ∧ inR .i64 x.Num ∧ x.Name.size ≤ 140737488351232 ∧ x.Args.length * 64 ≤ 140737488351232 ∧ (∀ y0 : GExpr, y0 ∈ x.Args → y0.wf) ∧ x.Body.length * 104 ≤ 140737488351232 ∧ (∀ y0 : GStmt, y0 ∈ x.Body → y0.wf) ∧ x.Else.length * 104 ≤ 140737488351232 ∧ (∀ y0 : GStmt, y0 ∈ x.Else → y0.wf) := by
  cases x
  simp only [GStmt.wf, GStmt.wfs_iff]
  rfl
theorem GStmt.wf_Kind {x : GStmt} (h : x.wf) : inR .i64 x.Kind := ((GStmt.wf_iff x).1 h).1
theorem GStmt.wf_Num {x : GStmt} (h : x.wf) : inR .i64 x.Num := ((GStmt.wf_iff x).1 h).2.1
theorem GStmt.wf_Name {x : GStmt} (h : x.wf) : x.Name.size ≤ 140737488351232 := ((GStmt.wf_iff x).1 h).2.2.1
theorem GStmt.wl_Args {x : GStmt} (h : x.wf) : x.Args.length * 64 ≤ 140737488351232 := ((GStmt.wf_iff x).1 h).2.2.2.1
theorem GStmt.wf_Args {x : GStmt} (h : x.wf) : (∀ y0 : GExpr, y0 ∈ x.Args → y0.wf) := ((GStmt.wf_iff x).1 h).2.2.2.2.1
theorem GStmt.wl_Body {x : GStmt} (h : x.wf) : x.Body.length * 104 ≤ 140737488351232 := ((GStmt.wf_iff x).1 h).2.2.2.2.2.1
theorem GStmt.wf_Body {x : GStmt} (h : x.wf) : (∀ y0 : GStmt, y0 ∈ x.Body → y0.wf) := ((GStmt.wf_iff x).1 h).2.2.2.2.2.2.1
theorem GStmt.wl_Else {x : GStmt} (h : x.wf) : x.Else.length * 104 ≤ 140737488351232 := ((GStmt.wf_iff x).1 h).2.2.2.2.2.2.2.1
theorem GStmt.wf_Else {x : GStmt} (h : x.wf) : (∀ y0 : GStmt, y0 ∈ x.Else → y0.wf) := ((GStmt.wf_iff x).1 h).2.2.2.2.2.2.2.2
theorem tyK_94 : tyK Go.Proofs.Try.prog 94 = .st [3, 3, 9, 51, 59, 59] := by kernel_rfl
theorem tyK_59 : tyK Go.Proofs.Try.prog 59 = .sl 94 104 := by kernel_rfl
theorem GStmt.of' : ∀ (n : Nat) {ys : List D}, SizeOf.sizeOf ys < n → HasT Go.Proofs.Try.prog 94 ys → ∃ x : GStmt, ys = x.enc ∧ x.wf := by
  intro n
  induction n with
  | zero => intro ys h; omega
  | succ n ih =>
  intro ys hsz h
  have h' := HasT.st_inv h tyK_94
  obtain ⟨a0_, r0, hr0, t0, h0⟩ := h'
  obtain ⟨a1_, r1, hr1, t1, h1⟩ := h0
  obtain ⟨a2_, r2, hr2, t2, h2⟩ := h1
  obtain ⟨a3_, r3, hr3, t3, h3⟩ := h2
  obtain ⟨a4_, r4, hr4, t4, h4⟩ := h3
  obtain ⟨a5_, r5, hr5, t5, h5⟩ := h4
  simp only [HasTs] at h5
  subst h5
  subst hr5
  subst hr4
  subst hr3
  subst hr2
  subst hr1
  subst hr0
  obtain ⟨a0_', rfl, a0_w⟩ := HasT.int_inv t0 tyK_3
  obtain ⟨a1_', rfl, a1_w⟩ := HasT.int_inv t1 tyK_3
  obtain ⟨a2_', rfl, a2_w⟩ := HasT.str_inv t2 tyK_9
  obtain ⟨a3_0, rfl, a3_h, a3_l, a3_w⟩ := HasT.sl_inv t3 tyK_51
  obtain ⟨a3_', rfl, a3_a⟩ := map_of (f := GExpr.enc) (p := fun (y : GExpr) => y.wf) (fun a3_e hx => by
    have a3_q := a3_h a3_e hx
    obtain ⟨a3_e', rfl, a3_ew⟩ := GExpr.of a3_q
    exact ⟨a3_e', rfl, a3_ew⟩)
  obtain ⟨a4_0, rfl, a4_h, a4_l, a4_w⟩ := HasT.sl_inv t4 tyK_59
  obtain ⟨a4_', rfl, a4_a⟩ := map_of (f := GStmt.enc) (p := GStmt.wf) (fun a4_e hx => ih (by have hlt := List.sizeOf_lt_of_mem hx; simp at hsz; omega) (a4_h a4_e hx))
  obtain ⟨a5_0, rfl, a5_h, a5_l, a5_w⟩ := HasT.sl_inv t5 tyK_59
  obtain ⟨a5_', rfl, a5_a⟩ := map_of (f := GStmt.enc) (p := GStmt.wf) (fun a5_e hx => ih (by have hlt := List.sizeOf_lt_of_mem hx; simp at hsz; omega) (a5_h a5_e hx))
  exact ⟨.mk a0_' a1_' a2_' a3_' a4_' a5_', by rw [GStmt.enc_eq]; rfl, by rw [GStmt.wf]; exact ⟨a0_w, a1_w, a2_w, (by simpa using a3_w), a3_a, (by simpa using a4_w), (GStmt.wfs_iff _).2 a4_a, (by simpa using a5_w), (GStmt.wfs_iff _).2 a5_a⟩⟩
theorem GStmt.of {ys : List D} (h : HasT Go.Proofs.Try.prog 94 ys) : ∃ x : GStmt, ys = x.enc ∧ x.wf := GStmt.of' _ (Nat.lt_succ_self _) h
structure GIns where
  Op : Int
  Arg : Int
  deriving DecidableEq
def GIns.enc (x : GIns) : List D := [D.v (.int .i64 x.Op), D.v (.int .i64 x.Arg)]
@[simp] theorem GIns.enc_length (x : GIns) : x.enc.length = 2 := rfl
@[simp] theorem GIns.enc_0 (x : GIns) : x.enc[0]? = some (D.v (.int .i64 x.Op)) := rfl
@[simp] theorem GIns.encg_0 (x : GIns) (h : 0 < x.enc.length) : x.enc[0] = D.v (.int .i64 x.Op) := rfl
@[simp] theorem GIns.enc_1 (x : GIns) : x.enc[1]? = some (D.v (.int .i64 x.Arg)) := rfl
@[simp] theorem GIns.encg_1 (x : GIns) (h : 1 < x.enc.length) : x.enc[1] = D.v (.int .i64 x.Arg) := rfl
@[simp] theorem GIns.fzV (L : Heap) (x : GIns) : V.fzs L (x.enc.map V.d) = x.enc.map V.d := by simp [GIns.enc, V.fzs, V.fz]
@[simp] theorem GIns.eqV (x y : GIns) : eqVs (x.enc.map V.d) (y.enc.map V.d) = some (decide (x = y)) := by
  rcases x with ⟨a_0, a_1⟩
  rcases y with ⟨b_0, b_1⟩
  simp only [GIns.enc, List.map, eqVs, vals, eqVals, eqV1, if_true, Option.some.injEq, bytes_beq]
  rw [Bool.eq_iff_iff]
  simp [and_assoc]
@[simp] theorem GIns.fitV (x : GIns) : fitVs [.i .i64, .i .i64] (x.enc.map V.d) = true := by
  simp [GIns.enc, fitVs, vals, fits, fit1]
def GIns.zero : GIns := ⟨0, 0⟩
theorem GIns.zero_enc : GIns.zero.enc = [D.v (.int .i64 0), D.v (.int .i64 0)] := rfl
@[simp] theorem GIns.getZ (o : Option GIns) : (o.map GIns.enc).getD [D.v (.int .i64 0), D.v (.int .i64 0)] = (o.getD GIns.zero).enc := by cases o <;> rfl
@[simp] theorem GIns.getV (o : Option GIns) : (o.map (fun x => x.enc.map V.d)).getD [V.d (D.v (.int .i64 0)), V.d (D.v (.int .i64 0))] = ((o.getD GIns.zero).enc).map V.d := by cases o <;> rfl
theorem GIns.cellAt (l : List GIns) (i j : Nat) (z : D) (h : GIns.zero.enc[j]? = some z) : cellAt (dd (l.map GIns.enc)) i j [V.d z] = V.d (((l[i]?.getD GIns.zero).enc[j]?).getD default) := by
  unfold Go.Ab.cellAt
  rw [dd_get, List.getElem?_map]
  cases hl : l[i]? with
  | none => simp [h]
  | some a =>
    have hj := (List.getElem?_eq_some_iff.1 h).1
    have hj' : j < a.enc.length := by rw [GIns.enc_length] at hj ⊢; exact hj
    simp only [Option.map_some, List.getElem?_map, List.getElem?_eq_getElem hj', Option.getD_some]
@[simp] theorem GIns.cellAt_0 (l : List GIns) (i : Nat) : Go.Ab.cellAt (dd (l.map GIns.enc)) i 0 [V.d (D.v (.int .i64 0))] = V.d (D.v (.int .i64 (l[i]?.getD GIns.zero).Op)) := (GIns.cellAt l i 0 (D.v (.int .i64 0)) rfl).trans (by simp)
@[simp] theorem GIns.cellAt_1 (l : List GIns) (i : Nat) : Go.Ab.cellAt (dd (l.map GIns.enc)) i 1 [V.d (D.v (.int .i64 0))] = V.d (D.v (.int .i64 (l[i]?.getD GIns.zero).Arg)) := (GIns.cellAt l i 1 (D.v (.int .i64 0)) rfl).trans (by simp)
@[simp] theorem GIns.aggAt (l : List GIns) (i : Nat) : Go.Ab.aggAt (dd (l.map GIns.enc)) i 0 2 [V.d (D.v (.int .i64 0)), V.d (D.v (.int .i64 0))] = (l[i]?.getD GIns.zero).enc.map V.d := by
  unfold Go.Ab.aggAt
  rw [dd_get, List.getElem?_map]
  cases l[i]? with
  | none => rfl
  | some x => simp; cases x; rfl
@[simp] theorem GIns.dropAll (x : GIns) : List.drop 2 x.enc = [] := rfl
@[simp] theorem GIns.dropAllv (x : GIns) : List.drop 2 (x.enc.map V.d) = [] := rfl
@[simp] theorem GIns.enc_all (x : GIns) : x.enc.take 2 = x.enc := rfl
@[simp] theorem GIns.enc_allv (x : GIns) : List.take 2 (x.enc.map V.d) = x.enc.map V.d := rfl
def GIns.wf (x : GIns) : Prop := inR .i64 x.Op ∧ inR .i64 x.Arg
theorem GIns.wf_Op {x : GIns} (h : x.wf) : inR .i64 x.Op := h.1
theorem GIns.wf_Arg {x : GIns} (h : x.wf) : inR .i64 x.Arg := h.2
theorem tyK_64 : tyK Go.Proofs.Try.prog 64 = .st [3, 3] := by kernel_rfl
theorem GIns.of {ys : List D} (h : HasT Go.Proofs.Try.prog 64 ys) : ∃ x : GIns, ys = x.enc ∧ x.wf := by
  have h' := HasT.st_inv h tyK_64
  obtain ⟨a0_, r0, hr0, t0, h0⟩ := h'
  obtain ⟨a1_, r1, hr1, t1, h1⟩ := h0
  simp only [HasTs] at h1
  subst h1
  subst hr1
  subst hr0
  obtain ⟨a0_', rfl, a0_w⟩ := HasT.int_inv t0 tyK_3
  obtain ⟨a1_', rfl, a1_w⟩ := HasT.int_inv t1 tyK_3
  exact ⟨⟨a0_', a1_'⟩, rfl, ⟨a0_w, a1_w⟩⟩
structure GCmd where
  Verb : Int
  Noun : Int
  Second : Int
  Number : Int
  Dir : Int
  deriving DecidableEq
def GCmd.enc (x : GCmd) : List D := [D.v (.int .i64 x.Verb), D.v (.int .i64 x.Noun), D.v (.int .i64 x.Second), D.v (.int .i64 x.Number), D.v (.int .i64 x.Dir)]
@[simp] theorem GCmd.enc_length (x : GCmd) : x.enc.length = 5 := rfl
@[simp] theorem GCmd.enc_0 (x : GCmd) : x.enc[0]? = some (D.v (.int .i64 x.Verb)) := rfl
@[simp] theorem GCmd.encg_0 (x : GCmd) (h : 0 < x.enc.length) : x.enc[0] = D.v (.int .i64 x.Verb) := rfl
@[simp] theorem GCmd.enc_1 (x : GCmd) : x.enc[1]? = some (D.v (.int .i64 x.Noun)) := rfl
@[simp] theorem GCmd.encg_1 (x : GCmd) (h : 1 < x.enc.length) : x.enc[1] = D.v (.int .i64 x.Noun) := rfl
@[simp] theorem GCmd.enc_2 (x : GCmd) : x.enc[2]? = some (D.v (.int .i64 x.Second)) := rfl
@[simp] theorem GCmd.encg_2 (x : GCmd) (h : 2 < x.enc.length) : x.enc[2] = D.v (.int .i64 x.Second) := rfl
@[simp] theorem GCmd.enc_3 (x : GCmd) : x.enc[3]? = some (D.v (.int .i64 x.Number)) := rfl
@[simp] theorem GCmd.encg_3 (x : GCmd) (h : 3 < x.enc.length) : x.enc[3] = D.v (.int .i64 x.Number) := rfl
@[simp] theorem GCmd.enc_4 (x : GCmd) : x.enc[4]? = some (D.v (.int .i64 x.Dir)) := rfl
@[simp] theorem GCmd.encg_4 (x : GCmd) (h : 4 < x.enc.length) : x.enc[4] = D.v (.int .i64 x.Dir) := rfl
@[simp] theorem GCmd.fzV (L : Heap) (x : GCmd) : V.fzs L (x.enc.map V.d) = x.enc.map V.d := by simp [GCmd.enc, V.fzs, V.fz]
@[simp] theorem GCmd.eqV (x y : GCmd) : eqVs (x.enc.map V.d) (y.enc.map V.d) = some (decide (x = y)) := by
  rcases x with ⟨a_0, a_1, a_2, a_3, a_4⟩
  rcases y with ⟨b_0, b_1, b_2, b_3, b_4⟩
  simp only [GCmd.enc, List.map, eqVs, vals, eqVals, eqV1, if_true, Option.some.injEq, bytes_beq]
  rw [Bool.eq_iff_iff]
  simp [and_assoc]
@[simp] theorem GCmd.fitV (x : GCmd) : fitVs [.i .i64, .i .i64, .i .i64, .i .i64, .i .i64] (x.enc.map V.d) = true := by
  simp [GCmd.enc, fitVs, vals, fits, fit1]
def GCmd.zero : GCmd := ⟨0, 0, 0, 0, 0⟩
theorem GCmd.zero_enc : GCmd.zero.enc = [D.v (.int .i64 0), D.v (.int .i64 0), D.v (.int .i64 0), D.v (.int .i64 0), D.v (.int .i64 0)] := rfl
@[simp] theorem GCmd.getZ (o : Option GCmd) : (o.map GCmd.enc).getD [D.v (.int .i64 0), D.v (.int .i64 0), D.v (.int .i64 0), D.v (.int .i64 0), D.v (.int .i64 0)] = (o.getD GCmd.zero).enc := by cases o <;> rfl
@[simp] theorem GCmd.getV (o : Option GCmd) : (o.map (fun x => x.enc.map V.d)).getD [V.d (D.v (.int .i64 0)), V.d (D.v (.int .i64 0)), V.d (D.v (.int .i64 0)), V.d (D.v (.int .i64 0)), V.d (D.v (.int .i64 0))] = ((o.getD GCmd.zero).enc).map V.d := by cases o <;> rfl
theorem GCmd.cellAt (l : List GCmd) (i j : Nat) (z : D) (h : GCmd.zero.enc[j]? = some z) : cellAt (dd (l.map GCmd.enc)) i j [V.d z] = V.d (((l[i]?.getD GCmd.zero).enc[j]?).getD default) := by
  unfold Go.Ab.cellAt
  rw [dd_get, List.getElem?_map]
  cases hl : l[i]? with
  | none => simp [h]
  | some a =>
    have hj := (List.getElem?_eq_some_iff.1 h).1
    have hj' : j < a.enc.length := by rw [GCmd.enc_length] at hj ⊢; exact hj
    simp only [Option.map_some, List.getElem?_map, List.getElem?_eq_getElem hj', Option.getD_some]
@[simp] theorem GCmd.cellAt_0 (l : List GCmd) (i : Nat) : Go.Ab.cellAt (dd (l.map GCmd.enc)) i 0 [V.d (D.v (.int .i64 0))] = V.d (D.v (.int .i64 (l[i]?.getD GCmd.zero).Verb)) := (GCmd.cellAt l i 0 (D.v (.int .i64 0)) rfl).trans (by simp)
@[simp] theorem GCmd.cellAt_1 (l : List GCmd) (i : Nat) : Go.Ab.cellAt (dd (l.map GCmd.enc)) i 1 [V.d (D.v (.int .i64 0))] = V.d (D.v (.int .i64 (l[i]?.getD GCmd.zero).Noun)) := (GCmd.cellAt l i 1 (D.v (.int .i64 0)) rfl).trans (by simp)
@[simp] theorem GCmd.cellAt_2 (l : List GCmd) (i : Nat) : Go.Ab.cellAt (dd (l.map GCmd.enc)) i 2 [V.d (D.v (.int .i64 0))] = V.d (D.v (.int .i64 (l[i]?.getD GCmd.zero).Second)) := (GCmd.cellAt l i 2 (D.v (.int .i64 0)) rfl).trans (by simp)
@[simp] theorem GCmd.cellAt_3 (l : List GCmd) (i : Nat) : Go.Ab.cellAt (dd (l.map GCmd.enc)) i 3 [V.d (D.v (.int .i64 0))] = V.d (D.v (.int .i64 (l[i]?.getD GCmd.zero).Number)) := (GCmd.cellAt l i 3 (D.v (.int .i64 0)) rfl).trans (by simp)
@[simp] theorem GCmd.cellAt_4 (l : List GCmd) (i : Nat) : Go.Ab.cellAt (dd (l.map GCmd.enc)) i 4 [V.d (D.v (.int .i64 0))] = V.d (D.v (.int .i64 (l[i]?.getD GCmd.zero).Dir)) := (GCmd.cellAt l i 4 (D.v (.int .i64 0)) rfl).trans (by simp)
@[simp] theorem GCmd.aggAt (l : List GCmd) (i : Nat) : Go.Ab.aggAt (dd (l.map GCmd.enc)) i 0 5 [V.d (D.v (.int .i64 0)), V.d (D.v (.int .i64 0)), V.d (D.v (.int .i64 0)), V.d (D.v (.int .i64 0)), V.d (D.v (.int .i64 0))] = (l[i]?.getD GCmd.zero).enc.map V.d := by
  unfold Go.Ab.aggAt
  rw [dd_get, List.getElem?_map]
  cases l[i]? with
  | none => rfl
  | some x => simp; cases x; rfl
@[simp] theorem GCmd.dropAll (x : GCmd) : List.drop 5 x.enc = [] := rfl
@[simp] theorem GCmd.dropAllv (x : GCmd) : List.drop 5 (x.enc.map V.d) = [] := rfl
@[simp] theorem GCmd.enc_all (x : GCmd) : x.enc.take 5 = x.enc := rfl
@[simp] theorem GCmd.enc_allv (x : GCmd) : List.take 5 (x.enc.map V.d) = x.enc.map V.d := rfl
def GCmd.wf (x : GCmd) : Prop := inR .i64 x.Verb ∧ inR .i64 x.Noun ∧ inR .i64 x.Second ∧ inR .i64 x.Number ∧ inR .i64 x.Dir
theorem GCmd.wf_Verb {x : GCmd} (h : x.wf) : inR .i64 x.Verb := h.1
theorem GCmd.wf_Noun {x : GCmd} (h : x.wf) : inR .i64 x.Noun := h.2.1
theorem GCmd.wf_Second {x : GCmd} (h : x.wf) : inR .i64 x.Second := h.2.2.1
theorem GCmd.wf_Number {x : GCmd} (h : x.wf) : inR .i64 x.Number := h.2.2.2.1
theorem GCmd.wf_Dir {x : GCmd} (h : x.wf) : inR .i64 x.Dir := h.2.2.2.2
theorem tyK_47 : tyK Go.Proofs.Try.prog 47 = .st [3, 3, 3, 3, 3] := by kernel_rfl
theorem GCmd.of {ys : List D} (h : HasT Go.Proofs.Try.prog 47 ys) : ∃ x : GCmd, ys = x.enc ∧ x.wf := by
  have h' := HasT.st_inv h tyK_47
  obtain ⟨a0_, r0, hr0, t0, h0⟩ := h'
  obtain ⟨a1_, r1, hr1, t1, h1⟩ := h0
  obtain ⟨a2_, r2, hr2, t2, h2⟩ := h1
  obtain ⟨a3_, r3, hr3, t3, h3⟩ := h2
  obtain ⟨a4_, r4, hr4, t4, h4⟩ := h3
  simp only [HasTs] at h4
  subst h4
  subst hr4
  subst hr3
  subst hr2
  subst hr1
  subst hr0
  obtain ⟨a0_', rfl, a0_w⟩ := HasT.int_inv t0 tyK_3
  obtain ⟨a1_', rfl, a1_w⟩ := HasT.int_inv t1 tyK_3
  obtain ⟨a2_', rfl, a2_w⟩ := HasT.int_inv t2 tyK_3
  obtain ⟨a3_', rfl, a3_w⟩ := HasT.int_inv t3 tyK_3
  obtain ⟨a4_', rfl, a4_w⟩ := HasT.int_inv t4 tyK_3
  exact ⟨⟨a0_', a1_', a2_', a3_', a4_'⟩, rfl, ⟨a0_w, a1_w, a2_w, a3_w, a4_w⟩⟩
structure GEdge where
  From : Int
  To : Int
  Cmd : GCmd
  deriving DecidableEq
def GEdge.enc (x : GEdge) : List D := [D.v (.int .i64 x.From), D.v (.int .i64 x.To), D.v (.int .i64 x.Cmd.Verb), D.v (.int .i64 x.Cmd.Noun), D.v (.int .i64 x.Cmd.Second), D.v (.int .i64 x.Cmd.Number), D.v (.int .i64 x.Cmd.Dir)]
@[simp] theorem GEdge.enc_length (x : GEdge) : x.enc.length = 7 := rfl
@[simp] theorem GEdge.enc_0 (x : GEdge) : x.enc[0]? = some (D.v (.int .i64 x.From)) := rfl
@[simp] theorem GEdge.encg_0 (x : GEdge) (h : 0 < x.enc.length) : x.enc[0] = D.v (.int .i64 x.From) := rfl
@[simp] theorem GEdge.enc_1 (x : GEdge) : x.enc[1]? = some (D.v (.int .i64 x.To)) := rfl
@[simp] theorem GEdge.encg_1 (x : GEdge) (h : 1 < x.enc.length) : x.enc[1] = D.v (.int .i64 x.To) := rfl
@[simp] theorem GEdge.enc_2 (x : GEdge) : x.enc[2]? = some (D.v (.int .i64 x.Cmd.Verb)) := rfl
@[simp] theorem GEdge.encg_2 (x : GEdge) (h : 2 < x.enc.length) : x.enc[2] = D.v (.int .i64 x.Cmd.Verb) := rfl
@[simp] theorem GEdge.enc_3 (x : GEdge) : x.enc[3]? = some (D.v (.int .i64 x.Cmd.Noun)) := rfl
@[simp] theorem GEdge.encg_3 (x : GEdge) (h : 3 < x.enc.length) : x.enc[3] = D.v (.int .i64 x.Cmd.Noun) := rfl
@[simp] theorem GEdge.enc_4 (x : GEdge) : x.enc[4]? = some (D.v (.int .i64 x.Cmd.Second)) := rfl
@[simp] theorem GEdge.encg_4 (x : GEdge) (h : 4 < x.enc.length) : x.enc[4] = D.v (.int .i64 x.Cmd.Second) := rfl
@[simp] theorem GEdge.enc_5 (x : GEdge) : x.enc[5]? = some (D.v (.int .i64 x.Cmd.Number)) := rfl
@[simp] theorem GEdge.encg_5 (x : GEdge) (h : 5 < x.enc.length) : x.enc[5] = D.v (.int .i64 x.Cmd.Number) := rfl
@[simp] theorem GEdge.enc_6 (x : GEdge) : x.enc[6]? = some (D.v (.int .i64 x.Cmd.Dir)) := rfl
@[simp] theorem GEdge.encg_6 (x : GEdge) (h : 6 < x.enc.length) : x.enc[6] = D.v (.int .i64 x.Cmd.Dir) := rfl
@[simp] theorem GEdge.fzV (L : Heap) (x : GEdge) : V.fzs L (x.enc.map V.d) = x.enc.map V.d := by simp [GEdge.enc, V.fzs, V.fz]
@[simp] theorem GEdge.eqV (x y : GEdge) : eqVs (x.enc.map V.d) (y.enc.map V.d) = some (decide (x = y)) := by
  rcases x with ⟨a_0, a_1, ⟨a_2_0, a_2_1, a_2_2, a_2_3, a_2_4⟩⟩
  rcases y with ⟨b_0, b_1, ⟨b_2_0, b_2_1, b_2_2, b_2_3, b_2_4⟩⟩
  simp only [GEdge.enc, List.map, eqVs, vals, eqVals, eqV1, if_true, Option.some.injEq, bytes_beq]
  rw [Bool.eq_iff_iff]
  simp [and_assoc]
@[simp] theorem GEdge.fitV (x : GEdge) : fitVs [.i .i64, .i .i64, .i .i64, .i .i64, .i .i64, .i .i64, .i .i64] (x.enc.map V.d) = true := by
  simp [GEdge.enc, fitVs, vals, fits, fit1]
def GEdge.zero : GEdge := ⟨0, 0, GCmd.zero⟩
theorem GEdge.zero_enc : GEdge.zero.enc = [D.v (.int .i64 0), D.v (.int .i64 0), D.v (.int .i64 0), D.v (.int .i64 0), D.v (.int .i64 0), D.v (.int .i64 0), D.v (.int .i64 0)] := rfl
@[simp] theorem GEdge.getZ (o : Option GEdge) : (o.map GEdge.enc).getD [D.v (.int .i64 0), D.v (.int .i64 0), D.v (.int .i64 0), D.v (.int .i64 0), D.v (.int .i64 0), D.v (.int .i64 0), D.v (.int .i64 0)] = (o.getD GEdge.zero).enc := by cases o <;> rfl
@[simp] theorem GEdge.getV (o : Option GEdge) : (o.map (fun x => x.enc.map V.d)).getD [V.d (D.v (.int .i64 0)), V.d (D.v (.int .i64 0)), V.d (D.v (.int .i64 0)), V.d (D.v (.int .i64 0)), V.d (D.v (.int .i64 0)), V.d (D.v (.int .i64 0)), V.d (D.v (.int .i64 0))] = ((o.getD GEdge.zero).enc).map V.d := by cases o <;> rfl
theorem GEdge.cellAt (l : List GEdge) (i j : Nat) (z : D) (h : GEdge.zero.enc[j]? = some z) : cellAt (dd (l.map GEdge.enc)) i j [V.d z] = V.d (((l[i]?.getD GEdge.zero).enc[j]?).getD default) := by
  unfold Go.Ab.cellAt
  rw [dd_get, List.getElem?_map]
  cases hl : l[i]? with
  | none => simp [h]
  | some a =>
    have hj := (List.getElem?_eq_some_iff.1 h).1
    have hj' : j < a.enc.length := by rw [GEdge.enc_length] at hj ⊢; exact hj
    simp only [Option.map_some, List.getElem?_map, List.getElem?_eq_getElem hj', Option.getD_some]
@[simp] theorem GEdge.cellAt_0 (l : List GEdge) (i : Nat) : Go.Ab.cellAt (dd (l.map GEdge.enc)) i 0 [V.d (D.v (.int .i64 0))] = V.d (D.v (.int .i64 (l[i]?.getD GEdge.zero).From)) := (GEdge.cellAt l i 0 (D.v (.int .i64 0)) rfl).trans (by simp)
@[simp] theorem GEdge.cellAt_1 (l : List GEdge) (i : Nat) : Go.Ab.cellAt (dd (l.map GEdge.enc)) i 1 [V.d (D.v (.int .i64 0))] = V.d (D.v (.int .i64 (l[i]?.getD GEdge.zero).To)) := (GEdge.cellAt l i 1 (D.v (.int .i64 0)) rfl).trans (by simp)
@[simp] theorem GEdge.cellAt_2 (l : List GEdge) (i : Nat) : Go.Ab.cellAt (dd (l.map GEdge.enc)) i 2 [V.d (D.v (.int .i64 0))] = V.d (D.v (.int .i64 (l[i]?.getD GEdge.zero).Cmd.Verb)) := (GEdge.cellAt l i 2 (D.v (.int .i64 0)) rfl).trans (by simp)
@[simp] theorem GEdge.cellAt_3 (l : List GEdge) (i : Nat) : Go.Ab.cellAt (dd (l.map GEdge.enc)) i 3 [V.d (D.v (.int .i64 0))] = V.d (D.v (.int .i64 (l[i]?.getD GEdge.zero).Cmd.Noun)) := (GEdge.cellAt l i 3 (D.v (.int .i64 0)) rfl).trans (by simp)
@[simp] theorem GEdge.cellAt_4 (l : List GEdge) (i : Nat) : Go.Ab.cellAt (dd (l.map GEdge.enc)) i 4 [V.d (D.v (.int .i64 0))] = V.d (D.v (.int .i64 (l[i]?.getD GEdge.zero).Cmd.Second)) := (GEdge.cellAt l i 4 (D.v (.int .i64 0)) rfl).trans (by simp)
@[simp] theorem GEdge.cellAt_5 (l : List GEdge) (i : Nat) : Go.Ab.cellAt (dd (l.map GEdge.enc)) i 5 [V.d (D.v (.int .i64 0))] = V.d (D.v (.int .i64 (l[i]?.getD GEdge.zero).Cmd.Number)) := (GEdge.cellAt l i 5 (D.v (.int .i64 0)) rfl).trans (by simp)
@[simp] theorem GEdge.cellAt_6 (l : List GEdge) (i : Nat) : Go.Ab.cellAt (dd (l.map GEdge.enc)) i 6 [V.d (D.v (.int .i64 0))] = V.d (D.v (.int .i64 (l[i]?.getD GEdge.zero).Cmd.Dir)) := (GEdge.cellAt l i 6 (D.v (.int .i64 0)) rfl).trans (by simp)
@[simp] theorem GEdge.aggAt (l : List GEdge) (i : Nat) : Go.Ab.aggAt (dd (l.map GEdge.enc)) i 0 7 [V.d (D.v (.int .i64 0)), V.d (D.v (.int .i64 0)), V.d (D.v (.int .i64 0)), V.d (D.v (.int .i64 0)), V.d (D.v (.int .i64 0)), V.d (D.v (.int .i64 0)), V.d (D.v (.int .i64 0))] = (l[i]?.getD GEdge.zero).enc.map V.d := by
  unfold Go.Ab.aggAt
  rw [dd_get, List.getElem?_map]
  cases l[i]? with
  | none => rfl
  | some x => simp; cases x; rfl
@[simp] theorem GEdge.dropAll (x : GEdge) : List.drop 7 x.enc = [] := rfl
@[simp] theorem GEdge.dropAllv (x : GEdge) : List.drop 7 (x.enc.map V.d) = [] := rfl
@[simp] theorem GEdge.enc_all (x : GEdge) : x.enc.take 7 = x.enc := rfl
@[simp] theorem GEdge.enc_allv (x : GEdge) : List.take 7 (x.enc.map V.d) = x.enc.map V.d := rfl
@[simp] theorem GEdge.sub_Cmd (x : GEdge) : List.take 5 (List.drop 2 x.enc) = x.Cmd.enc := rfl
@[simp] theorem GEdge.subv_Cmd (x : GEdge) : List.take 5 (List.drop 2 (x.enc.map V.d)) = x.Cmd.enc.map V.d := rfl
@[simp] theorem GEdge.tailv_Cmd (x : GEdge) : List.drop 2 (x.enc.map V.d) = x.Cmd.enc.map V.d := rfl
@[simp] theorem GEdge.tail_Cmd (x : GEdge) : List.drop 2 x.enc = x.Cmd.enc := rfl
def GEdge.wf (x : GEdge) : Prop := inR .i64 x.From ∧ inR .i64 x.To ∧ x.Cmd.wf
theorem GEdge.wf_From {x : GEdge} (h : x.wf) : inR .i64 x.From := h.1
theorem GEdge.wf_To {x : GEdge} (h : x.wf) : inR .i64 x.To := h.2.1
theorem GEdge.wf_Cmd {x : GEdge} (h : x.wf) : x.Cmd.wf := h.2.2
theorem tyK_49 : tyK Go.Proofs.Try.prog 49 = .st [3, 3, 47] := by kernel_rfl
theorem GEdge.of {ys : List D} (h : HasT Go.Proofs.Try.prog 49 ys) : ∃ x : GEdge, ys = x.enc ∧ x.wf := by
  have h' := HasT.st_inv h tyK_49
  obtain ⟨a0_, r0, hr0, t0, h0⟩ := h'
  obtain ⟨a1_, r1, hr1, t1, h1⟩ := h0
  obtain ⟨a2_, r2, hr2, t2, h2⟩ := h1
  simp only [HasTs] at h2
  subst h2
  subst hr2
  subst hr1
  subst hr0
  obtain ⟨a0_', rfl, a0_w⟩ := HasT.int_inv t0 tyK_3
  obtain ⟨a1_', rfl, a1_w⟩ := HasT.int_inv t1 tyK_3
  obtain ⟨a2_', rfl, a2_w⟩ := GCmd.of t2
  exact ⟨⟨a0_', a1_', a2_'⟩, rfl, ⟨a0_w, a1_w, a2_w⟩⟩
structure Gstep where
  far : Int
  from_ : Int
  dir : Int
  deriving DecidableEq
def Gstep.enc (x : Gstep) : List D := [D.v (.int .i64 x.far), D.v (.int .i64 x.from_), D.v (.int .i64 x.dir)]
@[simp] theorem Gstep.enc_length (x : Gstep) : x.enc.length = 3 := rfl
@[simp] theorem Gstep.enc_0 (x : Gstep) : x.enc[0]? = some (D.v (.int .i64 x.far)) := rfl
@[simp] theorem Gstep.encg_0 (x : Gstep) (h : 0 < x.enc.length) : x.enc[0] = D.v (.int .i64 x.far) := rfl
@[simp] theorem Gstep.enc_1 (x : Gstep) : x.enc[1]? = some (D.v (.int .i64 x.from_)) := rfl
@[simp] theorem Gstep.encg_1 (x : Gstep) (h : 1 < x.enc.length) : x.enc[1] = D.v (.int .i64 x.from_) := rfl
@[simp] theorem Gstep.enc_2 (x : Gstep) : x.enc[2]? = some (D.v (.int .i64 x.dir)) := rfl
@[simp] theorem Gstep.encg_2 (x : Gstep) (h : 2 < x.enc.length) : x.enc[2] = D.v (.int .i64 x.dir) := rfl
@[simp] theorem Gstep.fzV (L : Heap) (x : Gstep) : V.fzs L (x.enc.map V.d) = x.enc.map V.d := by simp [Gstep.enc, V.fzs, V.fz]
@[simp] theorem Gstep.eqV (x y : Gstep) : eqVs (x.enc.map V.d) (y.enc.map V.d) = some (decide (x = y)) := by
  rcases x with ⟨a_0, a_1, a_2⟩
  rcases y with ⟨b_0, b_1, b_2⟩
  simp only [Gstep.enc, List.map, eqVs, vals, eqVals, eqV1, if_true, Option.some.injEq, bytes_beq]
  rw [Bool.eq_iff_iff]
  simp [and_assoc]
@[simp] theorem Gstep.fitV (x : Gstep) : fitVs [.i .i64, .i .i64, .i .i64] (x.enc.map V.d) = true := by
  simp [Gstep.enc, fitVs, vals, fits, fit1]
def Gstep.zero : Gstep := ⟨0, 0, 0⟩
theorem Gstep.zero_enc : Gstep.zero.enc = [D.v (.int .i64 0), D.v (.int .i64 0), D.v (.int .i64 0)] := rfl
@[simp] theorem Gstep.getZ (o : Option Gstep) : (o.map Gstep.enc).getD [D.v (.int .i64 0), D.v (.int .i64 0), D.v (.int .i64 0)] = (o.getD Gstep.zero).enc := by cases o <;> rfl
@[simp] theorem Gstep.getV (o : Option Gstep) : (o.map (fun x => x.enc.map V.d)).getD [V.d (D.v (.int .i64 0)), V.d (D.v (.int .i64 0)), V.d (D.v (.int .i64 0))] = ((o.getD Gstep.zero).enc).map V.d := by cases o <;> rfl
theorem Gstep.cellAt (l : List Gstep) (i j : Nat) (z : D) (h : Gstep.zero.enc[j]? = some z) : cellAt (dd (l.map Gstep.enc)) i j [V.d z] = V.d (((l[i]?.getD Gstep.zero).enc[j]?).getD default) := by
  unfold Go.Ab.cellAt
  rw [dd_get, List.getElem?_map]
  cases hl : l[i]? with
  | none => simp [h]
  | some a =>
    have hj := (List.getElem?_eq_some_iff.1 h).1
    have hj' : j < a.enc.length := by rw [Gstep.enc_length] at hj ⊢; exact hj
    simp only [Option.map_some, List.getElem?_map, List.getElem?_eq_getElem hj', Option.getD_some]
@[simp] theorem Gstep.cellAt_0 (l : List Gstep) (i : Nat) : Go.Ab.cellAt (dd (l.map Gstep.enc)) i 0 [V.d (D.v (.int .i64 0))] = V.d (D.v (.int .i64 (l[i]?.getD Gstep.zero).far)) := (Gstep.cellAt l i 0 (D.v (.int .i64 0)) rfl).trans (by simp)
@[simp] theorem Gstep.cellAt_1 (l : List Gstep) (i : Nat) : Go.Ab.cellAt (dd (l.map Gstep.enc)) i 1 [V.d (D.v (.int .i64 0))] = V.d (D.v (.int .i64 (l[i]?.getD Gstep.zero).from_)) := (Gstep.cellAt l i 1 (D.v (.int .i64 0)) rfl).trans (by simp)
@[simp] theorem Gstep.cellAt_2 (l : List Gstep) (i : Nat) : Go.Ab.cellAt (dd (l.map Gstep.enc)) i 2 [V.d (D.v (.int .i64 0))] = V.d (D.v (.int .i64 (l[i]?.getD Gstep.zero).dir)) := (Gstep.cellAt l i 2 (D.v (.int .i64 0)) rfl).trans (by simp)
@[simp] theorem Gstep.aggAt (l : List Gstep) (i : Nat) : Go.Ab.aggAt (dd (l.map Gstep.enc)) i 0 3 [V.d (D.v (.int .i64 0)), V.d (D.v (.int .i64 0)), V.d (D.v (.int .i64 0))] = (l[i]?.getD Gstep.zero).enc.map V.d := by
  unfold Go.Ab.aggAt
  rw [dd_get, List.getElem?_map]
  cases l[i]? with
  | none => rfl
  | some x => simp; cases x; rfl
@[simp] theorem Gstep.dropAll (x : Gstep) : List.drop 3 x.enc = [] := rfl
@[simp] theorem Gstep.dropAllv (x : Gstep) : List.drop 3 (x.enc.map V.d) = [] := rfl
@[simp] theorem Gstep.enc_all (x : Gstep) : x.enc.take 3 = x.enc := rfl
@[simp] theorem Gstep.enc_allv (x : Gstep) : List.take 3 (x.enc.map V.d) = x.enc.map V.d := rfl
def Gstep.wf (x : Gstep) : Prop := inR .i64 x.far ∧ inR .i64 x.from_ ∧ inR .i64 x.dir
theorem Gstep.wf_far {x : Gstep} (h : x.wf) : inR .i64 x.far := h.1
theorem Gstep.wf_from_ {x : Gstep} (h : x.wf) : inR .i64 x.from_ := h.2.1
theorem Gstep.wf_dir {x : Gstep} (h : x.wf) : inR .i64 x.dir := h.2.2
theorem tyK_73 : tyK Go.Proofs.Try.prog 73 = .st [3, 3, 3] := by kernel_rfl
theorem Gstep.of {ys : List D} (h : HasT Go.Proofs.Try.prog 73 ys) : ∃ x : Gstep, ys = x.enc ∧ x.wf := by
  have h' := HasT.st_inv h tyK_73
  obtain ⟨a0_, r0, hr0, t0, h0⟩ := h'
  obtain ⟨a1_, r1, hr1, t1, h1⟩ := h0
  obtain ⟨a2_, r2, hr2, t2, h2⟩ := h1
  simp only [HasTs] at h2
  subst h2
  subst hr2
  subst hr1
  subst hr0
  obtain ⟨a0_', rfl, a0_w⟩ := HasT.int_inv t0 tyK_3
  obtain ⟨a1_', rfl, a1_w⟩ := HasT.int_inv t1 tyK_3
  obtain ⟨a2_', rfl, a2_w⟩ := HasT.int_inv t2 tyK_3
  exact ⟨⟨a0_', a1_', a2_'⟩, rfl, ⟨a0_w, a1_w, a2_w⟩⟩
structure Gwriter where
  l : (List GIns)
  labels : Int
  deriving DecidableEq
def Gwriter.enc (x : Gwriter) : List D := [D.sl (x.l.map GIns.enc), D.v (.int .i64 x.labels)]
@[simp] theorem Gwriter.enc_length (x : Gwriter) : x.enc.length = 2 := rfl
@[simp] theorem Gwriter.enc_0 (x : Gwriter) : x.enc[0]? = some (D.sl (x.l.map GIns.enc)) := rfl
@[simp] theorem Gwriter.encg_0 (x : Gwriter) (h : 0 < x.enc.length) : x.enc[0] = D.sl (x.l.map GIns.enc) := rfl
@[simp] theorem Gwriter.enc_1 (x : Gwriter) : x.enc[1]? = some (D.v (.int .i64 x.labels)) := rfl
@[simp] theorem Gwriter.encg_1 (x : Gwriter) (h : 1 < x.enc.length) : x.enc[1] = D.v (.int .i64 x.labels) := rfl
@[simp] theorem Gwriter.fzV (L : Heap) (x : Gwriter) : V.fzs L (x.enc.map V.d) = x.enc.map V.d := by simp [Gwriter.enc, V.fzs, V.fz]
def Gwriter.zero : Gwriter := ⟨[], 0⟩
theorem Gwriter.zero_enc : Gwriter.zero.enc = [D.sl [], D.v (.int .i64 0)] := rfl
@[simp] theorem Gwriter.getZ (o : Option Gwriter) : (o.map Gwriter.enc).getD [D.sl [], D.v (.int .i64 0)] = (o.getD Gwriter.zero).enc := by cases o <;> rfl
@[simp] theorem Gwriter.getV (o : Option Gwriter) : (o.map (fun x => x.enc.map V.d)).getD [V.d (D.sl []), V.d (D.v (.int .i64 0))] = ((o.getD Gwriter.zero).enc).map V.d := by cases o <;> rfl
theorem Gwriter.cellAt (l : List Gwriter) (i j : Nat) (z : D) (h : Gwriter.zero.enc[j]? = some z) : cellAt (dd (l.map Gwriter.enc)) i j [V.d z] = V.d (((l[i]?.getD Gwriter.zero).enc[j]?).getD default) := by
  unfold Go.Ab.cellAt
  rw [dd_get, List.getElem?_map]
  cases hl : l[i]? with
  | none => simp [h]
  | some a =>
    have hj := (List.getElem?_eq_some_iff.1 h).1
    have hj' : j < a.enc.length := by rw [Gwriter.enc_length] at hj ⊢; exact hj
    simp only [Option.map_some, List.getElem?_map, List.getElem?_eq_getElem hj', Option.getD_some]
@[simp] theorem Gwriter.cellAt_0 (l : List Gwriter) (i : Nat) : Go.Ab.cellAt (dd (l.map Gwriter.enc)) i 0 [V.d (D.sl [])] = V.d (D.sl ((l[i]?.getD Gwriter.zero).l.map GIns.enc)) := (Gwriter.cellAt l i 0 (D.sl []) rfl).trans (by simp)
@[simp] theorem Gwriter.cellAt_1 (l : List Gwriter) (i : Nat) : Go.Ab.cellAt (dd (l.map Gwriter.enc)) i 1 [V.d (D.v (.int .i64 0))] = V.d (D.v (.int .i64 (l[i]?.getD Gwriter.zero).labels)) := (Gwriter.cellAt l i 1 (D.v (.int .i64 0)) rfl).trans (by simp)
@[simp] theorem Gwriter.aggAt (l : List Gwriter) (i : Nat) : Go.Ab.aggAt (dd (l.map Gwriter.enc)) i 0 2 [V.d (D.sl []), V.d (D.v (.int .i64 0))] = (l[i]?.getD Gwriter.zero).enc.map V.d := by
  unfold Go.Ab.aggAt
  rw [dd_get, List.getElem?_map]
  cases l[i]? with
  | none => rfl
  | some x => simp; cases x; rfl
@[simp] theorem Gwriter.dropAll (x : Gwriter) : List.drop 2 x.enc = [] := rfl
@[simp] theorem Gwriter.dropAllv (x : Gwriter) : List.drop 2 (x.enc.map V.d) = [] := rfl
@[simp] theorem Gwriter.enc_all (x : Gwriter) : x.enc.take 2 = x.enc := rfl
@[simp] theorem Gwriter.enc_allv (x : Gwriter) : List.take 2 (x.enc.map V.d) = x.enc.map V.d := rfl
def Gwriter.wf (x : Gwriter) : Prop := x.l.length * 16 ≤ 140737488351232 ∧ (∀ y0 : GIns, y0 ∈ x.l → y0.wf) ∧ inR .i64 x.labels
theorem Gwriter.wl_l {x : Gwriter} (h : x.wf) : x.l.length * 16 ≤ 140737488351232 := h.1
theorem Gwriter.wf_l {x : Gwriter} (h : x.wf) : (∀ y0 : GIns, y0 ∈ x.l → y0.wf) := h.2.1
theorem Gwriter.wf_labels {x : Gwriter} (h : x.wf) : inR .i64 x.labels := h.2.2
theorem tyK_97 : tyK Go.Proofs.Try.prog 97 = .st [57, 3] := by kernel_rfl
theorem tyK_57 : tyK Go.Proofs.Try.prog 57 = .sl 64 16 := by kernel_rfl
theorem Gwriter.of {ys : List D} (h : HasT Go.Proofs.Try.prog 97 ys) : ∃ x : Gwriter, ys = x.enc ∧ x.wf := by
  have h' := HasT.st_inv h tyK_97
  obtain ⟨a0_, r0, hr0, t0, h0⟩ := h'
  obtain ⟨a1_, r1, hr1, t1, h1⟩ := h0
  simp only [HasTs] at h1
  subst h1
  subst hr1
  subst hr0
  obtain ⟨a0_0, rfl, a0_h, a0_l, a0_w⟩ := HasT.sl_inv t0 tyK_57
  obtain ⟨a0_', rfl, a0_a⟩ := map_of (f := GIns.enc) (p := fun (y : GIns) => y.wf) (fun a0_e hx => by
    have a0_q := a0_h a0_e hx
    obtain ⟨a0_e', rfl, a0_ew⟩ := GIns.of a0_q
    exact ⟨a0_e', rfl, a0_ew⟩)
  obtain ⟨a1_', rfl, a1_w⟩ := HasT.int_inv t1 tyK_3
  exact ⟨⟨a0_', a1_'⟩, rfl, ⟨(by simpa using a0_w), a0_a, a1_w⟩⟩
end Go.Ab

/-
  The engine, part Q: contracts in one form; calls by one line; loops by the slots and resources that a round changes.
-/
set_option linter.unusedSimpArgs false
set_option linter.unusedVariables false
namespace Go.Ab

section
variable {P : Program} {n : Nat} {s : St} {Q : AX → St → Prop} {L : Heap}

/-- The function, given data, hands back data, and nothing else changes. -/
structure Pure (P : Program) (f : FuncId) (args : List V) (x : V) : Prop where
  en : enters P f = true
  on : V.ons [] args = true
  rn : x.on [] = true
  calls : ACalls P f args [] (fun r _ => r = .ret x)

theorem Pure.run {f : FuncId} {args : List V} {x : V} {fn : Func} {c : Code} (hf : P.funcs[f]? = some fn) (hb : fn.body = some c) (hs : args.length ≤ fn.ntmps ∧ enters P f = true ∧ V.ons [] args = true ∧ x.on [] = true)
    (h : codeK P fn.ntmps c ⟨argFrame 0 args, []⟩ (kontK P fn.ntmps (FPost P fn.results.toList (fun r L' => ∃ y, r = .ret y ∧ y.fz L' = x)) [])) : Pure P f args x :=
  ⟨hs.2.1, hs.2.2.1, hs.2.2.2, (ACalls.data (ACalls.run hf hb hs.1 h) hs.2.2.2).mono fun _ _ h => h.1⟩

theorem Pure.eq {f : FuncId} {args args' : List V} {x x' : V} (h : Pure P f args x) (ha : args = args') (hx : x = x') : Pure P f args' x' := by subst ha; subst hx; exact h

theorem Pure.ok {f : FuncId} {args : List V} {x : V} (h : Pure P f args x) (L : Heap) : OKCall P f args L x := OKCall.pure h.en h.on h.rn h.calls

theorem Pure.lend {f : FuncId} {args args' : List V} {x : V} {L : Heap} (h : Pure P f args' x) (hx : x.scal = true) (ha : V.fzs L args = args') : OKCall P f args L x := by
  subst ha
  exact OKCall.lend h.en h.on hx h.calls

/-- The function is lent boxes, and leaves them as they are. -/
structure Kept (P : Program) (f : FuncId) (args : List V) (L1 : Heap) (x : V) : Prop where
  en : enters P f = true
  on : V.ons (keys L1) args = true
  onL : L1.all (fun p => Res.on (keys L1) p.2 && isBox p.2) = true
  rn : x.scal = true
  calls : ACalls P f args L1 (fun r L' => r = .ret x ∧ L' = L1)

theorem Kept.run {f : FuncId} {args : List V} {L1 : Heap} {x : V} {fn : Func} {c : Code} (hf : P.funcs[f]? = some fn) (hb : fn.body = some c)
    (hs : args.length ≤ fn.ntmps ∧ enters P f = true ∧ V.ons (keys L1) args = true ∧ L1.all (fun p => Res.on (keys L1) p.2 && isBox p.2) = true ∧ x.scal = true)
    (h : codeK P fn.ntmps c ⟨argFrame 0 args, L1⟩ (kontK P fn.ntmps (FPost P fn.results.toList (fun r L' => r = .ret x ∧ L' = L1)) [])) : Kept P f args L1 x :=
  ⟨hs.2.1, hs.2.2.1, hs.2.2.2.1, hs.2.2.2.2, ACalls.run hf hb hs.1 h⟩

theorem Kept.ok {f : FuncId} {args : List V} {L1 : Heap} {x : V} (h : Kept P f args L1 x) (L : Heap) (hL : L.filter (fun p => (keys L1).contains p.1) = L1) : OKCall P f args L x :=
  OKCall.box (keys L1) hL h.en h.on h.onL h.rn h.calls

/-- The call that comes next, of a function of which the contract is known. -/
theorem AOps.pureC {ops : Array Oper} {o : Oper} {rest : List Oper} {c : Call} {f : FuncId} {args : List V} {x : V} (hop : o.op = .call c) (h : Pure P f args x) (hc : callee s.ev c = some (f, args)) (hg : o.guard = none)
    (hd : ∀ d, o.dst = some d → d < n) (hr : dstsOk n rest = true) (k : ∀ bs, runC P ops rest (s.put o.dst x) bs [] (KK P n ops Q)) : AOps P n ops (o :: rest) s Q :=
  AOps.quietT hg hd (OpT.call hop hc h.en h.on h.rn h.calls) (runC_sound rest _ [] hr k)

/-- The same; the arguments that are owned rows of data are lent. -/
theorem AOps.lendC {ops : Array Oper} {o : Oper} {rest : List Oper} {c : Call} {f : FuncId} {args args' : List V} {x : V} (hop : o.op = .call c) (h : Pure P f args' x) (hc : callee s.ev c = some (f, args)) (ha : V.fzs s.L args = args') (hx : x.scal = true) (hg : o.guard = none)
    (hd : ∀ d, o.dst = some d → d < n) (hr : dstsOk n rest = true) (k : ∀ bs, runC P ops rest (s.put o.dst x) bs [] (KK P n ops Q)) : AOps P n ops (o :: rest) s Q := by
  subst ha
  exact AOps.quietT hg hd (OpT.lend hop hc h.en h.on hx h.calls) (runC_sound rest _ [] hr k)

/-- The call that comes next: it is given the resources of these handles. -/
theorem AOps.effC {ops : Array Oper} {o : Oper} {rest : List Oper} {c : Call} {f : FuncId} {args : List V} {L1 : Heap} {R : AE → Heap → Prop} (hs : List Nat) (hop : o.op = .call c) (h : ACalls P f args L1 R) (hc : callee s.ev c = some (f, args)) (hg : o.guard = none)
    (hd : ∀ d, o.dst = some d → d < n) (hr : dstsOk n rest = true) (he : enters P f = true) (hL : s.L.filter (fun p => hs.contains p.1) = L1)
    (ho : V.ons (keys L1) args = true) (hon : L1.all (fun p => Res.on (keys L1) p.2) = true)
    (hfr : s.fr.all (fun p => V.on (keys (s.L.filter fun p => !hs.contains p.1) ++ (L1.filterMap fun p => match p.2 with | .box (_ + 1) _ _ => some p.1 | _ => none)) p.2) = true)
    (hL2 : (s.L.filter fun p => !hs.contains p.1).all (fun p => Res.on (keys (s.L.filter fun p => !hs.contains p.1) ++ (L1.filterMap fun p => match p.2 with | .box (_ + 1) _ _ => some p.1 | _ => none)) p.2) = true)
    (hstay : ∀ r L1', R r L1' → (∃ x, r = .ret x) ∧ (∀ k ∈ keys L1', k ∉ keys (s.L.filter fun p => !hs.contains p.1)) ∧ ∀ k b ty cs, (k, Res.box (b + 1) ty cs) ∈ L1 → ∃ ty' cs', (k, Res.box (b + 1) ty' cs') ∈ L1')
    (k : ∀ x L1', R (.ret x) L1' → ∀ bs, runC P ops rest (St.put { s with L := L1' ++ s.L.filter fun p => !hs.contains p.1 } o.dst x) bs [] (KK P n ops Q)) : AOps P n ops (o :: rest) s Q :=
  AOps.callG (L1 := L1) (L2 := s.L.filter fun p => !hs.contains p.1) hg hd hop hc he ho (by subst hL; exact (List.filter_append_perm _ s.L).symm) hon (fun p hp => List.all_eq_true.1 hfr p hp) (fun p hp => List.all_eq_true.1 hL2 p hp) h hstay
    (fun x L1' hR => runC_sound rest _ [] hr (k x L1' hR))

def boxAt : Res → Option Nat
  | .box b _ _ => some b
  | _ => none
attribute [simp] boxAt
theorem AOps.effD {ops : Array Oper} {o : Oper} {rest : List Oper} {c : Call} {f : FuncId} {args : List V} {L1 L1' : Heap} {x : V} (hs : List Nat) (hop : o.op = .call c) (h : ACalls P f args L1 (fun r L => r = .ret x ∧ L = L1')) (hc : callee s.ev c = some (f, args)) (hg : o.guard = none)
    (hd : ∀ d, o.dst = some d → d < n) (hr : dstsOk n rest = true) (he : enters P f = true) (hL : s.L.filter (fun p => hs.contains p.1) = L1)
    (ho : V.ons (keys L1) args = true ∧ L1.all (fun p => Res.on (keys L1) p.2) = true ∧ L1.all (fun p => !isBox p.2 || L1'.any (fun q => q.1 == p.1 && (isBox q.2 && boxAt q.2 == boxAt p.2))) = true)
    (hfr : s.fr.all (fun p => V.on (keys (s.L.filter fun p => !hs.contains p.1) ++ keys (L1.filter fun p => isBox p.2)) p.2) = true)
    (hL2 : (s.L.filter fun p => !hs.contains p.1).all (fun p => Res.on (keys (s.L.filter fun p => !hs.contains p.1) ++ keys (L1.filter fun p => isBox p.2)) p.2) = true)
    (hk : (keys L1').all (fun k => !(keys (s.L.filter fun p => !hs.contains p.1)).contains k) = true)
    (k : ∀ bs, runC P ops rest (St.put { s with L := L1' ++ s.L.filter fun p => !hs.contains p.1 } o.dst x) bs [] (KK P n ops Q)) : AOps P n ops (o :: rest) s Q := by
  have hbx : (L1.filterMap fun p => match p.2 with | .box (_ + 1) _ _ => some p.1 | _ => none) = keys (L1.filter fun p => isBox p.2) := by
    generalize L1 = l
    induction l with
    | nil => rfl
    | cons p l ih =>
      obtain ⟨a, r⟩ := p
      cases r with
      | box b ty cs =>
        cases b with
        | succ b => simp only [List.filterMap_cons, List.filter_cons, isBox, if_true, keys, List.map_cons, ih]
        | zero =>
          simp only [List.filterMap_cons, List.filter_cons, isBox, ih]
          simp
      | row ty k xs =>
        simp only [List.filterMap_cons, List.filter_cons, isBox, ih]
        simp
      | env A =>
        simp only [List.filterMap_cons, List.filter_cons, isBox, ih]
        simp
      | mp es =>
        simp only [List.filterMap_cons, List.filter_cons, isBox, ih]
        simp
  refine AOps.effC hs hop h hc hg hd hr he hL ho.1 ho.2.1 (by rw [hbx]; exact hfr) (by rw [hbx]; exact hL2) ?_ ?_
  · rintro r L1'' ⟨rfl, rfl⟩
    refine ⟨⟨_, rfl⟩, fun k hk' => ?_, fun k b ty cs hm => ?_⟩
    · have := List.all_eq_true.1 hk k hk'
      simpa using this
    · have := List.all_eq_true.1 ho.2.2 _ hm
      simp only [isBox, Bool.not_true, Bool.false_or, List.any_eq_true, Bool.and_eq_true, beq_iff_eq] at this
      obtain ⟨⟨a, r⟩, h1, h2, h3, h4⟩ := this
      simp only at h2
      subst h2
      cases r with
      | box b' ty' cs' =>
        simp only [boxAt, Option.some.injEq] at h4
        subst h4
        exact ⟨ty', cs', h1⟩
      | row _ _ _ => simp at h3
      | env _ => simp at h3
      | mp _ => simp at h3
  · rintro x' L1'' ⟨e, rfl⟩
    obtain rfl := AE.ret.inj e
    exact k

/-! ### Loops -/

def upF (fr : List (Nat × V)) (ov : List (Nat × V)) : List (Nat × V) := fr.map fun p => (p.1, (ov.lookup p.1).getD p.2)
def upL (L : Heap) (ov : List (Nat × Res)) : Heap := L.map fun p => (p.1, (ov.lookup p.1).getD p.2)
def St.up (s : St) (F : List (Nat × V)) (R : List (Nat × Res)) : St := ⟨upF s.fr F, upL s.L R⟩

/-- What is asked at the end of round i of a loop. -/
def LoopS (ts hs : List Nat) (S : Nat → St) (N : Nat) (H : Nat → Prop) (i : Nat) (s : St) : Prop := (s.pick ts hs).on (keys (s.pick ts hs).L) = true ∧ i < N ∧ s.pick ts hs = S (i + 1) ∧ H (i + 1)

/-- A loop of at most N rounds: ts are the slots that are kept; F i and R i are the slots and resources that have changed before round i; H i is what else is known there. -/
theorem AWP.loopS {c : Code} {ks : List KI} (ts : List Nat) (N : Nat) (F : Nat → List (Nat × V)) (R : Nat → List (Nat × Res)) (H : Nat → Prop) (ht : ts.all (fun t => decide (t < n)) = true)
    (h0 : (keys s.L).Nodup ∧ (s.pick ts (keys s.L)).on (keys (s.pick ts (keys s.L)).L) = true ∧ s.pick ts (keys s.L) = (s.pick ts (keys s.L)).up (F 0) (R 0) ∧ H 0)
    (round : ∀ i, i ≤ N → H i → codeK P n c ((s.pick ts (keys s.L)).up (F i) (R i)) (kontK P n Q (.inv (LoopS ts (keys s.L) (fun i => (s.pick ts (keys s.L)).up (F i) (R i)) N H i) :: ks))) :
    AWP P n (.loop c) s (kontK P n Q ks) := by
  obtain ⟨h1, h2, h3, h4⟩ := h0
  refine AWP.weaken (Wk.pick ts (keys s.L) ht h1 h2) (AWP.loop (fun k st => ∃ i, k = N - i ∧ i ≤ N ∧ H i ∧ st = (s.pick ts (keys s.L)).up (F i) (R i)) ⟨N, 0, rfl, Nat.zero_le _, h4, h3⟩ ?_)
  rintro k st ⟨i, rfl, hi, hH, rfl⟩
  refine AWP.mono (codeK_sound _ _ _ (round i hi hH)) (fun x s' h => ?_)
  cases x with
  | normal =>
    obtain ⟨a1, a2, a3, a4⟩ := h
    exact ⟨N - (i + 1), by omega, _, Wk.pick ts (keys s.L) ht h1 a1, i + 1, rfl, by omega, a4, a3⟩
  | _ => exact h

/-- The places of these boxes are forgotten. -/
def Res.rlx : Res → Res
  | .box _ ty cs => .box 0 ty cs
  | r => r
def St.rlx (rs : List Nat) (s : St) : St := ⟨s.fr, s.L.map fun p => (p.1, if rs.contains p.1 then p.2.rlx else p.2)⟩
theorem Wk.rlx (rs : List Nat) : Wk n s (s.rlx rs) := by
  intro fo m a w g
  have hi := g.inv
  have hk : keys (St.rlx rs s).L = keys s.L := by simp [keys, St.rlx, Function.comp_def]
  refine ⟨m, ⟨g.size, g.fr, ⟨by rw [hk]; exact hi.nodup, fun h x hx => by rw [hk]; exact hi.dom h x hx, hi.apart, hi.others, hi.folt, ?_⟩, g.defers⟩, Step.refl w _⟩
  intro h r hr
  obtain ⟨p, hp, he⟩ := List.mem_map.1 hr
  simp only [Prod.mk.injEq] at he
  obtain ⟨rfl, rfl⟩ := he
  obtain ⟨x, hx, hh⟩ := hi.holds p.1 p.2 hp
  refine ⟨x, hx, ?_⟩
  split
  · generalize p.2 = q at hh
    cases q with
    | row ty k xs => exact hh
    | env A => exact hh
    | mp es => exact hh
    | box b ty cs =>
      obtain ⟨bb, _, h1⟩ := hh
      exact ⟨bb, .inl rfl, h1⟩
  · exact hh

/-- As 'loopS', but the boxes rs may be other ones in each round. -/
def LoopR (rs ts hs : List Nat) (S : Nat → St) (N : Nat) (H : Nat → Prop) (i : Nat) (s : St) : Prop := (s.pick ts hs).on (keys (s.pick ts hs).L) = true ∧ i < N ∧ (s.pick ts hs).rlx rs = S (i + 1) ∧ H (i + 1)

theorem AWP.loopR {c : Code} {ks : List KI} (ts : List Nat) (rs : List Nat) (N : Nat) (F : Nat → List (Nat × V)) (R : Nat → List (Nat × Res)) (H : Nat → Prop) (ht : ts.all (fun t => decide (t < n)) = true)
    (h0 : (keys s.L).Nodup ∧ (s.pick ts (keys s.L)).on (keys (s.pick ts (keys s.L)).L) = true ∧ (s.pick ts (keys s.L)).rlx rs = ((s.pick ts (keys s.L)).rlx rs).up (F 0) (R 0) ∧ H 0)
    (round : ∀ i, i ≤ N → H i → ∀ bs, codeK P n c ((((s.pick ts (keys s.L)).rlx rs).up (F i) (R i)).opn bs) (kontK P n Q (.inv (LoopR rs ts (keys s.L) (fun i => ((s.pick ts (keys s.L)).rlx rs).up (F i) (R i)) N H i) :: ks))) :
    AWP P n (.loop c) s (kontK P n Q ks) := by
  obtain ⟨h1, h2, h3, h4⟩ := h0
  refine AWP.weaken ((Wk.pick ts (keys s.L) ht h1 h2).trans (Wk.rlx rs)) (AWP.loop (fun k st => ∃ i, k = N - i ∧ i ≤ N ∧ H i ∧ st = ((s.pick ts (keys s.L)).rlx rs).up (F i) (R i)) ⟨N, 0, rfl, Nat.zero_le _, h4, h3⟩ ?_)
  rintro k st ⟨i, rfl, hi, hH, rfl⟩
  intro fo m a w hr g
  obtain ⟨bs, g2⟩ := g.opn
  refine AWP.mono (codeK_sound _ _ _ (round i hi hH bs)) (fun x s' h => ?_) fo m a w hr g2
  cases x with
  | normal =>
    obtain ⟨a1, a2, a3, a4⟩ := h
    exact ⟨N - (i + 1), by omega, _, (Wk.pick ts (keys s.L) ht h1 a1).trans (Wk.rlx rs), i + 1, rfl, by omega, a4, a3⟩
  | _ => exact h

attribute [simp] Res.rlx St.rlx LoopR
/-- What is asked at the end of round i of a loop, where the states are said in full. -/
def LoopW (n : Nat) (S : Nat → St) (N : Nat) (H : Nat → Prop) (i : Nat) (s : St) : Prop := i < N ∧ H (i + 1) ∧ Wk n s (S (i + 1))
theorem AWP.loopW {c : Code} {ks : List KI} (N : Nat) (S : Nat → St) (H : Nat → Prop) (h0 : H 0 ∧ Wk n s (S 0))
    (round : ∀ i, i ≤ N → H i → codeK P n c (S i) (kontK P n Q (.inv (LoopW n S N H i) :: ks))) : AWP P n (.loop c) s (kontK P n Q ks) := by
  refine AWP.weaken h0.2 (AWP.loop (fun k st => ∃ i, k = N - i ∧ i ≤ N ∧ H i ∧ st = S i) ⟨N, 0, rfl, Nat.zero_le _, h0.1, rfl⟩ ?_)
  rintro k st ⟨i, rfl, hi, hH, rfl⟩
  refine AWP.mono (codeK_sound _ _ _ (round i hi hH)) (fun x s' h => ?_)
  cases x with
  | normal =>
    obtain ⟨a1, a2, a3⟩ := h
    exact ⟨N - (i + 1), by omega, _, a3, i + 1, rfl, by omega, a2, rfl⟩
  | _ => exact h

attribute [simp] upF upL St.up LoopS LoopW
@[simp] theorem dd_getElem (ys : List (List D)) (i : Nat) (h : i < (dd ys).length) : (dd ys)[i]'h = (ys[i]'(by simpa using h)).map V.d := by simp [dd]
@[simp] theorem encB_getElem (l : List Bool) (i : Nat) (h : i < (encB l).length) : (encB l)[i]'h = [.v (.bool (l[i]'(by simpa using h)))] := by simp [encB]
@[simp] theorem encS_getElem (l : List ByteArray) (i : Nat) (h : i < (encS l).length) : (encS l)[i]'h = [.v (.string (l[i]'(by simpa using h)))] := by simp [encS]
@[simp] theorem encSl_getElem {α : Type} (g : List α → List (List D)) (l : List (List α)) (i : Nat) (h : i < (encSl g l).length) : (encSl g l)[i]'h = [.sl (g (l[i]'(by simpa [encSl] using h)))] := by simp [encSl]
@[simp] theorem encI_getElem (l : List Int) (i : Nat) (h : i < (encI l).length) : (encI l)[i]'h = [.v (.int .i64 (l[i]'(by simpa using h)))] := by simp [encI]
end
end Go.Ab

/-
  The engine, part Lp: a loop that goes through a list.
-/
set_option linter.unusedSimpArgs false
set_option linter.unusedVariables false
namespace Go.Ab

section
variable {P : Program} {n : Nat} {s : St} {Q : AX → St → Prop} {L : Heap}

/-- What is asked at the end of the round of x, behind those of pre. -/
def LoopL {α : Type} (ts hs : List Nat) (S : List α → St) (H : List α → Prop) (pre : List α) (x : α) (s : St) : Prop := (s.pick ts hs).on (keys (s.pick ts hs).L) = true ∧ s.pick ts hs = S (pre ++ [x]) ∧ H (pre ++ [x])

/-- A loop with a round for each of l: ts are the slots that are kept; F pre and R pre are the slots and resources that have changed behind the rounds of pre; H pre is what else is known there. -/
theorem AWP.loopL {α : Type} {c : Code} {ks : List KI} (ts : List Nat) (l : List α) (F : List α → List (Nat × V)) (R : List α → List (Nat × Res)) (H : List α → Prop) (ht : ts.all (fun t => decide (t < n)) = true) (hl : l.length ≤ 1000000000000000)
    (h0 : (keys s.L).Nodup ∧ (s.pick ts (keys s.L)).on (keys (s.pick ts (keys s.L)).L) = true ∧ s.pick ts (keys s.L) = (s.pick ts (keys s.L)).up (F []) (R []) ∧ H [])
    (round : ∀ pre x post, l = pre ++ x :: post → H pre → (hlt : pre.length < l.length) → l[pre.length] = x → inR .i64 ((pre.length : Int) + 1) →
      codeK P n c ((s.pick ts (keys s.L)).up (F pre) (R pre)) (kontK P n Q (.inv (LoopL ts (keys s.L) (fun l => (s.pick ts (keys s.L)).up (F l) (R l)) H pre x) :: ks)))
    (last : H l → codeK P n c ((s.pick ts (keys s.L)).up (F l) (R l)) (kontK P n Q (.inv (fun _ => False) :: ks))) :
    AWP P n (.loop c) s (kontK P n Q ks) := by
  obtain ⟨h1, h2, h3, h4⟩ := h0
  refine AWP.weaken (Wk.pick ts (keys s.L) ht h1 h2) (AWP.loop (fun k st => ∃ pre post, l = pre ++ post ∧ k = post.length ∧ H pre ∧ st = (s.pick ts (keys s.L)).up (F pre) (R pre)) ⟨l.length, [], l, rfl, rfl, h4, h3⟩ ?_)
  rintro k st ⟨pre, post, hsp, rfl, hH, rfl⟩
  match post, hsp with
  | x :: post, hsp =>
    refine AWP.mono (codeK_sound _ _ _ (round pre x post hsp hH (by rw [hsp]; simp) (by simp [hsp]) (by rw [inR_i64]; rw [hsp] at hl; simp at hl; omega))) (fun y s' h => ?_)
    cases y with
    | normal =>
      obtain ⟨a1, a2, a3⟩ := h
      exact ⟨post.length, by simp, _, Wk.pick ts (keys s.L) ht h1 a1, pre ++ [x], post, by simp [hsp], rfl, a3, a2⟩
    | _ => exact h
  | [], hsp =>
    rw [List.append_nil] at hsp
    subst hsp
    refine AWP.mono (codeK_sound _ _ _ (last hH)) (fun y s' h => ?_)
    cases y with
    | normal => exact h.elim
    | _ => exact h

end
attribute [simp] LoopL
end Go.Ab

/-
  The engine, part Wr: a list of operations, stopped within; sums and differences that may wrap.
-/
set_option linter.unusedSimpArgs false
set_option linter.unusedVariables false
namespace Go.Ab

section
variable {P : Program} {n : Nat} {s : St} {Q : AX → St → Prop} {ops : Array Oper}

theorem Oper.uponIn_mono {F : Fence} {d : Nat} {o : Oper} {a : Act} {next next' : Act → World → Prop} {Q1 Q2 : Exit → Act → World → Prop} (hn : ∀ a w, next a w → next' a w) (he : ∀ e a w, e ≠ .normal → Q1 e a w → Q2 e a w) {r : Result Next} (h : o.uponIn F d P a next Q1 r) : o.uponIn F d P a next' Q2 r := by
  cases r with
  | ok x w' =>
    cases x <;> simp only [Oper.uponIn] at h ⊢ <;>
      first
        | exact hn _ _ h
        | exact ⟨h.1, CallsIn.mono h.2 (fun e w'' hh => by cases e <;> first | exact hn _ _ hh | exact he _ _ _ (by simp) hh | (obtain ⟨a0, w0, hq⟩ := hh; exact ⟨a0, w0, he _ _ _ (by simp) hq⟩))⟩
        | exact ⟨h.1, RowsIn.mono h.2 (fun _ _ hh => hn _ _ hh)⟩
        | exact ⟨h.1, RoundIn.mono h.2 (fun e w'' hh => by cases e <;> first | exact hn _ _ hh | exact he _ _ _ (by simp) hh | (obtain ⟨a0, w0, hq⟩ := hh; exact ⟨a0, w0, he _ _ _ (by simp) hq⟩))⟩
  | halt x w' => cases x <;> simp only [Oper.uponIn] at h ⊢ <;> exact he _ _ _ (by simp) h

theorem wpList_app {F : Fence} {d : Nat} {Q1 Q2 : Exit → Act → World → Prop} {l2 : List Oper} (hn : ∀ a w, Q1 .normal a w → wpListIn F d P ops Q2 l2 a w) (he : ∀ e a w, e ≠ .normal → Q1 e a w → Q2 e a w) :
    ∀ (l1 : List Oper) (a : Act) (w : World), wpListIn F d P ops Q1 l1 a w → wpListIn F d P ops Q2 (l1 ++ l2) a w
  | [], a, w, h => hn a w h
  | o :: l1, a, w, h => by
    rw [List.cons_append]
    unfold wpListIn at h ⊢
    split
    · rename_i hw
      rw [if_pos hw] at h
      exact ⟨h.1, Oper.uponIn_mono (fun a w => wpList_app hn he l1 a w) he h.2⟩
    · rename_i hw
      rw [if_neg hw] at h
      exact ⟨h.1, wpList_app hn he l1 _ _ h.2⟩

theorem wpListIn_mono {F : Fence} {d : Nat} {Q1 Q2 : Exit → Act → World → Prop} (he : ∀ e a w, Q1 e a w → Q2 e a w) : ∀ (l : List Oper) (a : Act) (w : World), wpListIn F d P ops Q1 l a w → wpListIn F d P ops Q2 l a w
  | [], a, w, h => he _ a w h
  | o :: l, a, w, h => by
    unfold wpListIn at h ⊢
    split
    · rename_i hw
      rw [if_pos hw] at h
      exact ⟨h.1, Oper.uponIn_mono (fun a w => wpListIn_mono he l a w) (fun e a w _ => he e a w) h.2⟩
    · rename_i hw
      rw [if_neg hw] at h
      exact ⟨h.1, wpListIn_mono he l _ _ h.2⟩

theorem AOps.app {l1 l2 : List Oper} (h : AOps P n ops l1 s (AX.then (fun s' => AOps P n ops l2 s' Q) Q)) : AOps P n ops (l1 ++ l2) s Q := by
  intro fo m0 w0 m a w st g
  refine wpList_app (fun a1 w1 h1 => ?_) (fun e a1 w1 hne h1 => ?_) l1 a w (h fo m0 w0 m a w st g)
  · obtain ⟨ms, m', x, s', hm, hq, g', hx, st'⟩ := h1
    cases x <;> simp only [Exits] at hx
    refine wpListIn_mono (fun _ _ _ => Post.marked hm g' st') _ _ _ (hq (fo.mark ms) m' w1 m' a1 w1 (Step.refl _ _) g')
  · obtain ⟨ms, m', x, s', hm, hq, g', hx, st'⟩ := h1
    refine ⟨ms, m', x, s', hm, ?_, g', hx, st'⟩
    cases x with
    | normal => cases e <;> simp only [Exits] at hx; exact (hne rfl).elim
    | _ => exact hq

/-- The first k operations are run; then it is gone on with by hand. -/
theorem AOps.stop {l : List Oper} (k : Nat) (us : List V) (hd : dstsOk n (l.take k) = true) (h : ∀ bs, runC P ops (l.take k) s bs us (KK P n ops (AX.then (fun s' => AOps P n ops (l.drop k) s' Q) Q))) : AOps P n ops l s Q := by
  rw [← List.take_append_drop k l]
  exact AOps.app (runC_sound _ _ us hd h)

theorem AWP.regionS {id : Nat} {l : List Oper} (h : AOps P n l.toArray l s Q) : AWP P n (.region id l.toArray false) s Q :=
  fun fo m a w _ g => wp_region_toList (by simpa using h fo m w m a w (Step.refl _ _) g)

/-- A difference that may wrap, under a guard that is known. -/
theorem AOps.subG {o : Oper} {rest : List Oper} {g : Bool} {t : TypeId} {xo yo : Operand} {ty : TypeId} {a b : Int} (hop : o.op = .binOp .sub t xo yo ty) (hgd : guardV ops s o = some (some g)) (hd : ∀ d, o.dst = some d → d < n)
    (hx : (s.ev xo).un = .d (.v (.int .i64 a)) ∧ (s.ev yo).un = .d (.v (.int .i64 b))) (hu : g = true → uncs s o.op.operands.toList)
    (k : AOps P n ops rest (s.put o.dst (.gd g (.d (.v (.int .i64 (IntKind.i64.wrap (a - b))))))) Q) : AOps P n ops (o :: rest) s Q := by
  refine AOps.guarded hgd hd (fun hg => ⟨fun z => (s.ev z).un, fun z hz w O m v hr => un_rel hr (uncs_mem (hu hg) z (by simpa using hz)), ?_⟩) k
  intro fo m ρ w hi hr
  have h1 := hr xo (by rw [hop]; simp [Op.operands])
  have h2 := hr yo (by rw [hop]; simp [Op.operands])
  simp only [hx.1] at h1
  simp only [hx.2] at h2
  have e1 := h1.v_inv
  have e2 := h2.v_inv
  refine ⟨.int .i64 (IntKind.i64.wrap (a - b)), ?_, .d _ _ (.v _ rfl)⟩
  simp [execOp, hop, e1, e2, eqGuard, binOp, Op.intArith]
/-- The call that comes next, under a guard. -/
theorem AOps.pureG {o : Oper} {rest : List Oper} {c : Call} {f : FuncId} {args : List V} {x : V} {g : Bool} (hop : o.op = .call c) (h : g = true → Pure P f args x) (hc : callee (fun z => (s.ev z).un) c = some (f, args)) (hgd : guardV ops s o = some (some g)) (hu : g = true → uncs s o.op.operands.toList)
    (hd : ∀ d, o.dst = some d → d < n) (hr : dstsOk n rest = true) (k : ∀ bs, runC P ops rest (s.put o.dst (.gd g x)) bs [] (KK P n ops Q)) : AOps P n ops (o :: rest) s Q :=
  AOps.guardedT hgd hd (fun hg => ⟨fun z => (s.ev z).un, fun z hz w O m v hr => un_rel hr (uncs_mem (hu hg) z (by simpa using hz)), OpT.call hop hc (h hg).en (h hg).on (h hg).rn (h hg).calls⟩) (runC_sound rest _ [] hr k)
theorem AWP.seqK {x y : Code} (h : codeK P n x s (kontK P n (AX.then (fun s' => AWP P n y s' Q) Q) [])) : AWP P n (.seq x y) s Q := AWP.seq (codeK_sound _ _ _ h)
theorem Pure.runA {f : FuncId} {args : List V} {x : V} {fn : Func} {c : Code} (hf : P.funcs[f]? = some fn) (hb : fn.body = some c) (hs : args.length ≤ fn.ntmps ∧ enters P f = true ∧ V.ons [] args = true ∧ x.on [] = true)
    (h : AWP P fn.ntmps c ⟨argFrame 0 args, []⟩ (kontK P fn.ntmps (FPost P fn.results.toList (fun r L' => ∃ y, r = .ret y ∧ y.fz L' = x)) [])) : Pure P f args x :=
  ⟨hs.2.1, hs.2.2.1, hs.2.2.2, (ACalls.data (ACalls.of_AWP hf hb hs.1 h) hs.2.2.2).mono fun _ _ h => h.1⟩
end
end Go.Ab

/-
  The engine, part Fam: a row of slices, each of which is owned: the handles b, b + 1, ..
-/
set_option linter.unusedSimpArgs false
set_option linter.unusedVariables false
namespace Go.Ab

/-- n rows of data, under the handles b, b + 1, .. -/
def famd (b n : Nat) (ty : TypeId) (k : Nat) (A : Nat → List (List D)) : Heap := (List.range n).map fun i => (i + b, .row ty k (dd (A i)))
/-- the row of these handles -/
def hrow (b n : Nat) : List (List V) := (List.range n).map fun i => [.rv (i + b)]
def famKeys (b n : Nat) : List Nat := (List.range n).map fun i => i + b

section
variable {P : Program} {n : Nat} {s : St} {Q : AX → St → Prop} {L : Heap} {b N : Nat} {ty : TypeId} {k : Nat} {A : Nat → List (List D)}

theorem famd_lookup_none {h : Nat} : ∀ (l : List Nat), (∀ i ∈ l, i + b ≠ h) → List.lookup h (l.map fun i => (i + b, Res.row ty k (dd (A i)))) = none
  | [], _ => rfl
  | i :: l, hn => by
    have h1 : (h == i + b) = false := by simpa using fun e => hn i List.mem_cons_self e.symm
    simp only [List.map_cons, List.lookup, h1]
    exact famd_lookup_none l fun j hj => hn j (List.mem_cons_of_mem _ hj)
theorem famd_lookup_some {i : Nat} : ∀ (l : List Nat), i ∈ l → List.lookup (i + b) (l.map fun i => (i + b, Res.row ty k (dd (A i)))) = some (.row ty k (dd (A i)))
  | [], h => by cases h
  | j :: l, h => by
    by_cases e : j = i
    · subst e; simp [List.lookup]
    · have h1 : (i + b == j + b) = false := by simp; omega
      simp only [List.map_cons, List.lookup, h1]
      exact famd_lookup_some l ((List.mem_cons.1 h).resolve_left fun e' => e e'.symm)

@[simp] theorem famd_get (i : Nat) : List.lookup (i + b) (famd b N ty k A) = if i < N then some (.row ty k (dd (A i))) else none := by
  unfold famd
  split
  · exact famd_lookup_some _ (by simpa using ‹i < N›)
  · exact famd_lookup_none _ (by intro j hj; simp at hj; omega)
theorem famd_other {h : Nat} (hh : h < b) : List.lookup h (famd b N ty k A) = none := by
  unfold famd
  exact famd_lookup_none _ (by intro j hj; omega)
@[simp] theorem famd_keys : keys (famd b N ty k A) = famKeys b N := by simp [keys, famd, famKeys, Function.comp_def]
@[simp] theorem famd_keys' : List.map (·.1) (famd b N ty k A) = famKeys b N := by simp [famd, famKeys, Function.comp_def]
@[simp] theorem famKeys_mem (x : Nat) : x ∈ famKeys b N ↔ b ≤ x ∧ x < N + b := by
  unfold famKeys
  simp only [List.mem_map, List.mem_range]
  constructor
  · rintro ⟨i, h, rfl⟩; omega
  · rintro ⟨h1, h2⟩; exact ⟨x - b, by omega, by omega⟩
@[simp] theorem famKeys_contains (x : Nat) : (famKeys b N).contains x = (decide (b ≤ x) && decide (x < N + b)) := by
  rw [Bool.eq_iff_iff]; simp
theorem famKeys_nodup : (famKeys b N).Nodup := by
  unfold famKeys
  refine List.Pairwise.map _ (fun a b' h e => h ?_) List.nodup_range
  omega
@[simp] theorem famd_kill (h : Nat) : (famd b N ty k A).map (fun p => (p.1, p.2.kill h)) = famd b N ty k A := by
  unfold famd
  rw [List.map_map]
  apply List.map_congr_left
  intro i _
  simp [Res.kill, kill_dd]
@[simp] theorem famd_on (ks : List Nat) : (famd b N ty k A).all (fun p => Res.on ks p.2) = true := by
  simp [famd, List.all_map, Function.comp_def, Res.on, on_dd]
theorem famd_upd (i : Nat) (ys : List (List D)) : Heap.upd (famd b N ty k A) (i + b) (.row ty k (dd ys)) = famd b N ty k (fun j => if j = i then ys else A j) := by
  unfold famd Heap.upd
  rw [List.map_map]
  apply List.map_congr_left
  intro j _
  by_cases e : j = i
  · subst e; simp
  · have : ¬ j + b = i + b := by omega
    simp [this, e]
theorem famd_upd_other (h : Nat) (r : Res) (hh : h < b) : Heap.upd (famd b N ty k A) h r = famd b N ty k A := by
  unfold famd Heap.upd
  rw [List.map_map]
  apply List.map_congr_left
  intro j _
  have : ¬ j + b = h := by omega
  simp [this]
@[simp] theorem hrow_length : (hrow b N).length = N := by simp [hrow]
@[simp] theorem hrow_get (i : Nat) : (hrow b N)[i]? = if i < N then some [.rv (i + b)] else none := by
  unfold hrow
  rw [List.getElem?_map]
  split
  · rename_i h; simp [h]
  · rename_i h; rw [List.getElem?_eq_none (by simpa using h)]; rfl
theorem hrow_set_kill (i : Nat) : ((hrow b N).map (V.kills (i + b))).set i [.rv (i + b)] = hrow b N := by
  apply List.ext_getElem?
  intro j
  rw [List.getElem?_set]
  split
  · rename_i h
    subst h
    simp only [List.length_map, hrow_length]
    split
    · rename_i h; rw [hrow_get, if_pos h]
    · rename_i h; rw [hrow_get, if_neg h]
  · rename_i h
    rw [List.getElem?_map, hrow_get]
    split
    · have : ¬ j + b = i + b := by omega
      simp only [Option.map_some, V.kills, V.kill, if_neg this]
    · rfl
theorem hrow_on (ks : List Nat) (h : ∀ i, i < N → i + b ∈ ks) : (hrow b N).all (V.ons ks) = true := by
  simp only [hrow, List.all_map, List.all_eq_true, List.mem_range, Function.comp_def, V.ons, V.on, Bool.and_true]
  intro i hi
  simpa using h i hi

/-- Slices that are all nil, in an owned row: each is owned. -/
theorem Wk.famOwn (h b : Nat) {ty e : TypeId} {k kk N : Nat} {L1 : Heap} (hL : s.L = (h, .row ty k (List.replicate N [.d (.v (.slice none 0 0))])) :: L1) (hb : ∀ x ∈ keys s.L, x < b) :
    Wk n s ⟨s.fr, (h, .row ty k (hrow b N)) :: L1 ++ famd b N e kk (fun _ => [])⟩ := by
  intro fo m a w g
  obtain ⟨fr, L⟩ := s
  simp only at hL
  subst hL
  have hi := g.inv
  let m' : Nat → Option Value := fun i => if b ≤ i ∧ i < N + b then some (.slice none 0 0) else m i
  have hno : ∀ i, b ≤ i → m i = none := fun i hi' => not_key hi (fun hk => by have := hb i hk; omega)
  have hsub : ∀ i x, m i = some x → m' i = some x := by
    intro i x hx
    have : ¬ (b ≤ i ∧ i < N + b) := fun e => by rw [hno i e.1] at hx; cases hx
    simp only [m', if_neg this]; exact hx
  have hinv : ∀ i x bb, m' i = some x → blk x bb → m i = some x := by
    intro i x bb hx hbb
    by_cases e : b ≤ i ∧ i < N + b
    · simp only [m', if_pos e, Option.some.injEq] at hx; subst hx; simp [blk, blk1] at hbb
    · simpa only [m', if_neg e] using hx
  have hown : ∀ bb, Go.Ab.own m' bb ↔ Go.Ab.own m bb := by
    intro bb
    constructor
    · rintro ⟨i, x, hx, hbb⟩; exact ⟨i, x, hinv i x bb hx hbb, hbb⟩
    · rintro ⟨i, x, hx, hbb⟩; exact ⟨i, x, hsub i x hx, hbb⟩
  have hOO : ∀ bb, OO fo m' bb → OO fo m bb := fun bb hh => hh.imp (hown bb).1 id
  have mono : ∀ {v x}, RelV w (OO fo m) m v x → RelV w (OO fo m') m' v x := fun hr => hr.mono (Keep.refl w _) (fun bb _ hh => hOO bb hh) hsub
  refine ⟨m', ⟨g.size, fun t x hx => ⟨(g.fr t x hx).1, mono (g.fr t x hx).2⟩, ?_, g.defers⟩, Step.refl w _ |>.trans ⟨rfl, rfl, rfl, Nat.le_refl _, fun _ _ _ => rfl, fun bb _ hh => (hown bb).1 hh⟩⟩
  have hkey : keys ((h, Res.row ty k (hrow b N)) :: L1 ++ famd b N e kk (fun _ => [])) = (h :: keys L1) ++ famKeys b N := by
    have := famd_keys (b := b) (N := N) (ty := e) (k := kk) (A := fun _ => [])
    simp only [keys, List.map_append, List.map_cons] at this ⊢
    rw [this]
  refine ⟨?_, ?_, ?_, ?_, hi.folt, ?_⟩
  · rw [hkey, List.nodup_append]
    refine ⟨hi.nodup, famKeys_nodup, fun x hx y hy e => ?_⟩
    subst e
    have := hb x hx
    simp at hy
    omega
  · intro i x hx
    rw [hkey]
    by_cases e : b ≤ i ∧ i < N + b
    · exact List.mem_append_right _ (by simpa using e)
    · have : m i = some x := by simpa only [m', if_neg e] using hx
      exact List.mem_append_left _ (hi.dom i x this)
  · intro i j x y bb hx hy h1 h2
    exact hi.apart i j x y bb (hinv i x bb hx h1) (hinv j y bb hy h2) h1 h2
  · intro i x bb hx h1
    exact hi.others i x bb (hinv i x bb hx h1) h1
  · intro i r hr
    rcases List.mem_append.1 hr with hr | hr
    · rcases List.mem_cons.1 hr with hr | hr
      · simp only [Prod.mk.injEq] at hr
        obtain ⟨rfl, rfl⟩ := hr
        obtain ⟨x, hx, hh⟩ := hi.holds i _ List.mem_cons_self
        refine ⟨x, hsub i x hx, ?_⟩
        rcases hh with ⟨rfl, h2⟩ | ⟨bb, off, cap, cur, rfl, h2, h3, h4, h5, h6, h7, h8⟩
        · exact .inl ⟨rfl, by
            have : N = 0 := by simpa using congrArg List.length h2
            subst this; rfl⟩
        · refine .inr ⟨bb, off, cap, cur, by simp [hrow], h2, by simpa [hrow] using h3, h4, h5, ?_, h7, ?_⟩
          · intro j y hy
            have hj := h6 j
            rw [hrow_get] at hy
            split at hy
            · rename_i hlt
              simp only [Option.some.injEq] at hy
              subst hy
              have := hj _ (List.getElem?_replicate_of_lt hlt)
              simpa using this
            · cases hy
          · intro j l y z v hy hz hv
            rw [hrow_get] at hy
            split at hy
            · rename_i hlt
              simp only [Option.some.injEq] at hy
              subst hy
              cases l with
              | zero =>
                simp only [List.getElem?_cons_zero, Option.some.injEq] at hz
                subst hz
                have := h8 j 0 _ _ v (List.getElem?_replicate_of_lt hlt) rfl hv
                rw [this.bool_inv]
                refine .rv _ _ ?_ rfl
                simp only [m']
                rw [if_pos (by omega)]
              | succ l => simp at hz
            · cases hy
      · obtain ⟨x, hx, hh⟩ := hi.holds i r (List.mem_cons_of_mem _ hr)
        exact ⟨x, hsub i x hx, hh.mono (fun _ _ => rfl) (Keep.refl w _) (fun bb _ hh => hOO bb hh) hsub⟩
    · simp only [famd, List.mem_map, List.mem_range, Prod.mk.injEq] at hr
      obtain ⟨j, hj, rfl, rfl⟩ := hr
      refine ⟨.slice none 0 0, ?_, .inl ⟨rfl, rfl⟩⟩
      simp only [m']
      rw [if_pos (by omega)]

/-- A cell of a box that holds a nil slice: its row, empty, is owned. -/
theorem Wk.ownBox (c i h : Nat) {e k : Nat} {bk : Nat} {bt : TypeId} {cs : List V} (hl : s.L.lookup c = some (.box bk bt cs)) (hi : cs[i]? = some (.d (.v (.slice none 0 0)))) (hn : h ∉ keys s.L) :
    Wk n s ⟨s.fr, (h, .row e k []) :: Heap.upd s.L c (.box bk bt (cs.set i (.rv h)))⟩ := by
  intro fo m a w g
  obtain ⟨g', st⟩ := g.new (Grows.refl w) hn (x := .slice none 0 0) (r := .row e k []) (by intro b hb; simp [blk, blk1] at hb) (.inl ⟨rfl, rfl⟩)
  refine ⟨_, ⟨g'.size, g'.fr, ?_, g'.defers⟩, st⟩
  have hi' := g'.inv
  have hkey : keys ((h, Res.row e k []) :: Heap.upd s.L c (.box bk bt (cs.set i (.rv h)))) = keys ((h, Res.row e k []) :: s.L) := by
    have := keys_upd s.L c (.box bk bt (cs.set i (.rv h)))
    simp only [keys, List.map_cons] at this ⊢
    rw [this]
  have hmem := lookup_mem hl
  refine ⟨by rw [hkey]; exact hi'.nodup, fun j x hx => by rw [hkey]; exact hi'.dom j x hx, hi'.apart, hi'.others, hi'.folt, ?_⟩
  intro j r hr
  rcases List.mem_cons.1 hr with hr | hr
  · exact hi'.holds j r (by rw [hr]; exact List.mem_cons_self)
  · unfold Heap.upd at hr
    obtain ⟨p, hp, he⟩ := List.mem_map.1 hr
    split at he
    · rename_i hpc
      simp only [Prod.mk.injEq] at he
      obtain ⟨rfl, rfl⟩ := he
      obtain ⟨x, hx, hh⟩ := hi'.holds c _ (List.mem_cons_of_mem _ hmem)
      refine ⟨x, hx, ?_⟩
      obtain ⟨bb, hbb, cur, e1, e2, e3, e4, e5⟩ := hh
      refine ⟨bb, hbb, cur, e1, e2, by simpa using e3, e4, fun l v y hv hy => ?_⟩
      rw [List.getElem?_set] at hy
      split at hy
      · rename_i hil
        subst hil
        split at hy
        · simp only [Option.some.injEq] at hy
          subst hy
          have := e5 i v _ hv hi
          rw [this.bool_inv]
          exact .rv h _ (mset_same _ _) rfl
        · cases hy
      · exact e5 l v y hv hy
    · rw [he] at hp
      exact hi'.holds j r (List.mem_cons_of_mem _ hp)
@[simp] theorem encI_replicate (N : Nat) (v : Int) : List.replicate N [V.d (.v (.int .i64 v))] = dd (encI (List.replicate N v)) := by simp [dd, encI]

@[simp] theorem famd_mem (a : Nat) (r : Res) : (a, r) ∈ famd b N ty k A ↔ ∃ i, i < N ∧ i + b = a ∧ .row ty k (dd (A i)) = r := by
  simp [famd]
@[simp] theorem hrow_mem (x : List V) : x ∈ hrow b N ↔ ∃ i, i < N ∧ [.rv (i + b)] = x := by simp [hrow]
@[simp] theorem famd_map_upd (h : Nat) (r : Res) (hh : h < b) : List.map (fun p => if p.1 = h then (h, r) else p) (famd b N ty k A) = famd b N ty k A := famd_upd_other h r hh
@[simp] theorem famd_map_upd' (i : Nat) (ys : List (List D)) : List.map (fun p => if p.1 = i + b then (i + b, .row ty k (dd ys)) else p) (famd b N ty k A) = famd b N ty k (fun j => if j = i then ys else A j) := famd_upd i ys
@[simp] theorem hrow_getElem (i : Nat) (h : i < (hrow b N).length) : (hrow b N)[i]'h = [.rv (i + b)] := by simp [hrow]
theorem hrow_set_kill' (i : Nat) : ((hrow b N).map (V.kills (i + b))).set i [.rv (i + b)] = hrow b N := hrow_set_kill i
theorem famd_map {β : Type} (f : Nat × Res → β) : List.map f (famd b N ty k A) = (List.range N).map fun i => f (i + b, .row ty k (dd (A i))) := by
  simp [famd]
theorem famd_filter_no (f : Nat × Res → Bool) (h : ∀ i, f (i + b, .row ty k (dd (A i))) = false) : (famd b N ty k A).filter f = [] := by
  rw [List.filter_eq_nil_iff]
  rintro ⟨a, r⟩ hm
  obtain ⟨i, _, rfl, rfl⟩ := (famd_mem a r).1 hm
  simp [h i]
theorem famd_filter_all (f : Nat × Res → Bool) (h : ∀ i, f (i + b, .row ty k (dd (A i))) = true) : (famd b N ty k A).filter f = famd b N ty k A := by
  rw [List.filter_eq_self]
  rintro ⟨a, r⟩ hm
  obtain ⟨i, _, rfl, rfl⟩ := (famd_mem a r).1 hm
  exact h i
@[simp] theorem hrow_kill_other (h : Nat) (hh : h < b) : (hrow b N).map (V.kills h) = hrow b N := by
  unfold hrow
  rw [List.map_map]
  apply List.map_congr_left
  intro i _
  have : ¬ i + b = h := by omega
  simp [V.kills, V.kill, this]
theorem famd_eq : famd b N ty k A = (List.range N).map fun i => (i + b, .row ty k (dd (A i))) := rfl
@[simp] theorem famd_opn (bs : Nat → Nat) : (famd b N ty k A).map (fun p => (p.1, opnR bs p.1 p.2)) = famd b N ty k A := by
  simp [famd, Function.comp_def]
@[simp] theorem famd_rem (h : Nat) (hh : h < b) : remL h (famd b N ty k A) = famd b N ty k A := by
  rw [remL_eq, famd_filter_all _ (by intro i; simp; omega), famd_kill]
@[simp] theorem hrow_cellAt (i : Nat) (z : List V) (h : i < N) : cellAt (hrow b N) i 0 z = .rv (i + b) := by
  unfold cellAt
  rw [hrow_get, if_pos h]
  rfl

/-! ### A handle's new name -/
mutual
def V.ren (h g : Nat) : V → V
  | .bp i o => if i = h then .bp g o else .bp i o
  | .rv i => if i = h then .rv g else .rv i
  | .ep i k x y => if i = h then .ep g k x y else .ep i k x y
  | .clo fn f c => .clo fn (V.rens h g f) (V.rens h g c)
  | .agg cs => .agg (V.rens h g cs)
  | .tup cs => .tup (V.rens h g cs)
  | .gd b x => .gd b (V.ren h g x)
  | .d x => .d x
  | .rp cs => .rp cs
  | .kn Q => .kn Q
  | .any => .any
def V.rens (h g : Nat) : List V → List V
  | [] => []
  | x :: l => V.ren h g x :: V.rens h g l
end
theorem rens_eq (h g : Nat) : ∀ l : List V, V.rens h g l = l.map (V.ren h g)
  | [] => by simp [V.rens]
  | x :: l => by simp [V.rens, rens_eq h g l]
theorem rens_d (h g : Nat) (l : List D) : V.rens h g (l.map V.d) = l.map V.d := by
  rw [rens_eq, List.map_map]
  apply List.map_congr_left
  intro x _
  simp [V.ren]
def Res.ren (h g : Nat) : Res → Res
  | .box b ty cs => .box b ty (V.rens h g cs)
  | .row ty k xs => .row ty k (xs.map (V.rens h g))
  | .env A => .env A
  | .mp es => .mp es
theorem ren_dd (h g : Nat) (ys : List (List D)) : (dd ys).map (V.rens h g) = dd ys := by
  unfold dd
  rw [List.map_map]
  apply List.map_congr_left
  intro x _
  simp [rens_d]
def St.ren (h g : Nat) (s : St) : St := ⟨s.fr.map fun p => (p.1, p.2.ren h g), s.L.map fun p => (if p.1 = h then g else p.1, p.2.ren h g)⟩

theorem RelV.ren {w : World} {O : Nat → Prop} {m m' : Nat → Option Value} {h g : Nat} (hm : ∀ i x, i ≠ h → m i = some x → m' i = some x) (hg : ∀ x, m h = some x → m' g = some x) {x : Value} {y : V} (hr : RelV w O m x y) : RelV w O m' x (y.ren h g) := by
  induction hr with
  | d x y hd => simpa [V.ren] using RelV.d x y hd
  | bp i off b e =>
    simp only [V.ren]
    split
    · rename_i he; subst he; exact .bp g off b (hg _ e)
    · rename_i hne; exact .bp i off b (hm _ _ hne e)
  | rv i x e e1 =>
    simp only [V.ren]
    split
    · rename_i he; subst he; exact .rv g x (hg _ e) e1
    · rename_i hne; exact .rv i x (hm _ _ hne e) e1
  | ep i k p q b o n c e =>
    simp only [V.ren]
    split
    · rename_i he; subst he; exact .ep g k p q b o n c (hg _ e)
    · rename_i hne; exact .ep i k p q b o n c (hm _ _ hne e)
  | rp b off cs f hb hlt hc hr => simpa [V.ren] using RelV.rp b off cs f hb hlt hc hr
  | clo fn first caps cf cc s1 s2 h1 h2 ih1 ih2 =>
    simp only [V.ren, rens_eq]
    refine .clo fn first caps _ _ (by simpa using s1) (by simpa using s2) ?_ ?_
    · intro j x y hx hy
      rw [List.getElem?_map] at hy
      obtain ⟨z, hz, rfl⟩ := Option.map_eq_some_iff.1 hy
      exact ih1 j x z hx hz
    · intro j x y hx hy
      rw [List.getElem?_map] at hy
      obtain ⟨z, hz, rfl⟩ := Option.map_eq_some_iff.1 hy
      exact ih2 j x z hx hz
  | agg vs cs hs h1 h2 ih =>
    simp only [V.ren, rens_eq]
    refine .agg vs _ (by simpa using hs) h1 ?_
    intro j x y hx hy
    rw [List.getElem?_map] at hy
    obtain ⟨z, hz, rfl⟩ := Option.map_eq_some_iff.1 hy
    exact ih j x z hx hz
  | tup vs cs hs h2 ih =>
    simp only [V.ren, rens_eq]
    refine .tup vs _ (by simpa using hs) ?_
    intro j x y hx hy
    rw [List.getElem?_map] at hy
    obtain ⟨z, hz, rfl⟩ := Option.map_eq_some_iff.1 hy
    exact ih j x z hx hz
  | gt x y hr ih => simpa [V.ren] using RelV.gt x _ ih
  | gf y => simpa [V.ren] using RelV.gf (y.ren h g)
  | kn x Q h => simpa [V.ren] using RelV.kn x Q h
  | any x => simpa [V.ren] using RelV.any x

theorem Res.Holds.ren {w : World} {O : Nat → Prop} {m m' : Nat → Option Value} {h g : Nat} (hm : ∀ i x, i ≠ h → m i = some x → m' i = some x) (hg : ∀ x, m h = some x → m' g = some x) {x : Value} {r : Res} (hh : r.Holds w O m x) : (r.ren h g).Holds w O m' x := by
  cases r with
  | box b ty cs =>
    obtain ⟨bb, hbb, cur, rfl, h1, h2, h3, h4⟩ := hh
    simp only [Res.ren, rens_eq]
    refine ⟨bb, hbb, cur, rfl, h1, by simpa using h2, h3, fun j v c hv hc => ?_⟩
    rw [List.getElem?_map] at hc
    obtain ⟨z, hz, rfl⟩ := Option.map_eq_some_iff.1 hc
    exact (h4 j v z hv hz).ren hm hg
  | row ty k xs =>
    simp only [Res.ren]
    rcases hh with ⟨rfl, rfl⟩ | ⟨b, off, cap, cur, rfl, h1, h2, h3, h4, h5, h6, h7⟩
    · exact .inl ⟨rfl, rfl⟩
    · refine .inr ⟨b, off, cap, cur, by simp, h1, by simpa using h2, h3, h4, fun i x hx => ?_, h6, fun i j x y v hx hy hv => ?_⟩
      · rw [List.getElem?_map] at hx
        obtain ⟨z, hz, rfl⟩ := Option.map_eq_some_iff.1 hx
        rw [rens_eq, List.length_map]
        exact h5 i z hz
      · rw [List.getElem?_map] at hx
        obtain ⟨z, hz, rfl⟩ := Option.map_eq_some_iff.1 hx
        rw [rens_eq, List.getElem?_map] at hy
        obtain ⟨y', hy', rfl⟩ := Option.map_eq_some_iff.1 hy
        exact (h7 i j z y' v hz hy' hv).ren hm hg
  | env A => exact hh
  | mp es => exact hh

/-- A handle is named anew. -/
theorem Wk.ren (h g : Nat) (hg : g ∉ keys s.L) : Wk n s (s.ren h g) := by
  classical
  intro fo m a w gg
  let m' : Nat → Option Value := fun i => if i = g then m h else if i = h then none else m i
  have hi := gg.inv
  have hgn : ∀ x, m g ≠ some x := fun x hx => hg (hi.dom g x hx)
  have hm : ∀ i x, i ≠ h → m i = some x → m' i = some x := by
    intro i x hne hx
    have : i ≠ g := fun e => hgn x (e ▸ hx)
    simp only [m', if_neg this, if_neg hne]; exact hx
  have hmg : ∀ x, m h = some x → m' g = some x := fun x hx => by simp only [m', if_pos]; exact hx
  have hm' : ∀ i x, m' i = some x → ∃ j, m j = some x ∧ i = (if j = h then g else j) := by
    intro i x hx
    by_cases e : i = g
    · simp only [m', if_pos e] at hx; exact ⟨h, hx, by simp [e]⟩
    · simp only [m', if_neg e] at hx
      by_cases e2 : i = h
      · simp only [if_pos e2] at hx; cases hx
      · simp only [if_neg e2] at hx; exact ⟨i, hx, by rw [if_neg e2]⟩
  have hown : ∀ b, Ab.own m' b ↔ Ab.own m b := by
    intro b
    constructor
    · rintro ⟨i, x, hx, hb⟩
      obtain ⟨j, hj, _⟩ := hm' i x hx
      exact ⟨j, x, hj, hb⟩
    · rintro ⟨i, x, hx, hb⟩
      by_cases e : i = h
      · subst e; exact ⟨g, x, hmg x hx, hb⟩
      · exact ⟨i, x, hm i x e hx, hb⟩
  have hO : ∀ b, b < w.heap.size → OO fo m' b → OO fo m b := fun b _ ho => ho.imp (hown b).1 id
  have hkey : ∀ i, i ∈ keys s.L → (if i = h then g else i) ∈ keys (s.ren h g).L := by
    intro i hi'
    obtain ⟨p, hp, rfl⟩ := List.mem_map.1 hi'
    exact List.mem_map.2 ⟨_, List.mem_map.2 ⟨p, hp, rfl⟩, rfl⟩
  refine ⟨m', ⟨gg.size, ?_, ?_, gg.defers⟩, ⟨rfl, rfl, rfl, Nat.le_refl _, fun _ _ _ => rfl, fun b _ ho => (hown b).1 ho⟩⟩
  · intro t x hx
    obtain ⟨p, hp, he⟩ := List.mem_map.1 hx
    simp only [Prod.mk.injEq] at he
    obtain ⟨rfl, rfl⟩ := he
    obtain ⟨h1, h2⟩ := gg.fr p.1 p.2 hp
    exact ⟨h1, (h2.ren hm hmg).mono (Keep.refl w _) hO (fun _ _ e => e)⟩
  · refine ⟨?_, ?_, ?_, ?_, hi.folt, ?_⟩
    · have : keys (s.ren h g).L = (keys s.L).map fun i => if i = h then g else i := by
        simp [keys, St.ren, Function.comp_def]
      rw [this]
      have hnd := hi.nodup
      unfold List.Nodup at hnd ⊢
      rw [List.pairwise_map]
      refine List.Pairwise.imp_of_mem (fun {a b} ha hb hab => ?_) hnd
      have h1 : a ≠ g := fun e => hg (e ▸ ha)
      have h2 : b ≠ g := fun e => hg (e ▸ hb)
      split <;> split
      · rename_i e1 e2; exact (hab (e1.trans e2.symm)).elim
      · exact fun e => h2 e.symm
      · exact h1
      · exact hab
    · intro i x hx
      obtain ⟨j, hj, rfl⟩ := hm' i x hx
      exact hkey j (hi.dom j x hj)
    · intro i j x y b hx hy hb hb'
      obtain ⟨i', hi1, rfl⟩ := hm' i x hx
      obtain ⟨j', hj1, rfl⟩ := hm' j y hy
      rw [hi.apart i' j' x y b hi1 hj1 hb hb']
    · intro i x b hx hb
      obtain ⟨j, hj, _⟩ := hm' i x hx
      exact hi.others j x b hj hb
    · intro i r hr
      obtain ⟨p, hp, he⟩ := List.mem_map.1 hr
      simp only [Prod.mk.injEq] at he
      obtain ⟨rfl, rfl⟩ := he
      obtain ⟨x, hx, hh⟩ := hi.holds p.1 p.2 hp
      refine ⟨x, ?_, (hh.ren hm hmg).mono (fun _ _ => rfl) (Keep.refl w _) hO (fun _ _ e => e)⟩
      split
      · rename_i e; rw [e] at hx; exact hmg x hx
      · rename_i e; exact hm _ x e hx
attribute [simp] V.ren V.rens Res.ren St.ren rens_d ren_dd

/-! ### Functions that are lent resources, and make others on their way -/
def EPost (P : Program) (rs : List ResultVar) (R : AE → Heap → Prop) (hs : List Nat) (x : AX) (s : St) : Prop :=
  match x with
  | .normal | .ret => (s.pick [] hs).on (keys (s.pick [] hs).L) = true ∧ FPost P rs R .ret (s.pick [] hs)
  | _ => False
theorem AWP.epost {P : Program} {c : Code} {rs : List ResultVar} {R : AE → Heap → Prop} (hs : List Nat) (hh : hs.Nodup) (h : AWP P n c s (EPost P rs R hs)) : AWP P n c s (FPost P rs R) := by
  intro fo m a w hr g
  refine Code.wpIn_mono (fun e a1 w1 hp => ?_) (h fo m a w hr g)
  obtain ⟨ms, m', x, s', hmk, hq, g', he, st⟩ := hp
  have key : ∀ y, (s'.pick [] hs).on (keys (s'.pick [] hs).L) = true ∧ FPost P rs R .ret (s'.pick [] hs) → (∀ m2, Exits w1 (OO (fo.mark ms) m2) m2 e y) → FPost P rs R .ret (s'.pick [] hs) = FPost P rs R y (s'.pick [] hs) → Post fo n m w (FPost P rs R) e a1 w1 := by
    intro y h1 h2 h3
    obtain ⟨m2, g2, st2⟩ := Wk.pick [] hs (by simp) hh h1.1 (fo.mark ms) m' a1 w1 g'
    exact ⟨ms, m2, y, s'.pick [] hs, hmk, h3 ▸ h1.2, g2, h2 m2, st.trans st2⟩
  cases x with
  | normal =>
    refine key .normal hq (fun m2 => ?_) rfl
    cases e <;> simp [Exits] at he ⊢
  | ret =>
    refine key .ret hq (fun m2 => ?_) rfl
    cases e <;> simp [Exits] at he ⊢
  | _ => exact hq.elim
theorem ACalls.runP {P : Program} (hs : List Nat) (hh : hs.Nodup) {f : FuncId} {args : List V} {R : AE → Heap → Prop} {fn : Func} {c : Code} (hf : P.funcs[f]? = some fn) (hb : fn.body = some c) (hn : args.length ≤ fn.ntmps)
    (h : codeK P fn.ntmps c ⟨argFrame 0 args, L⟩ (kontK P fn.ntmps (EPost P fn.results.toList R hs) [])) : ACalls P f args L R :=
  ACalls.of_AWP hf hb hn (AWP.epost hs hh (codeK_sound _ _ _ h))
attribute [simp] EPost
end
end Go.Ab

/-
  The engine, part Pn: panics; calls that may panic.
-/
set_option linter.unusedSimpArgs false
set_option linter.unusedVariables false
namespace Go.Ab

section
variable {P : Program} {n : Nat} {s : St} {Q : AX → St → Prop} {ops : Array Oper}

theorem AOps.panic {o : Oper} {rest : List Oper} {xo : Operand} {t : TypeId} {ag : Bool} {cs : List D} (hop : o.op = .panic xo) (hx : s.ev xo = .d (.ifc t ag cs)) (hg : o.guard = none) (k : Q (.pan (.d (.ifc t ag cs))) s) : AOps P n ops (o :: rest) s Q := by
  intro fo m0 w0 m a w st g
  have hr := eval_rel g xo
  rw [hx] at hr
  obtain ⟨u, hv⟩ := ifc_inv hr.d_inv
  unfold wpListIn
  rw [if_pos (by simp [Region.wanted, hg])]
  have hrun : (execOp a.eval o).run P w = .halt (.panic (a.eval xo)) w := by
    simp [execOp, hop, hv, Instr.panic, goPanic]
  refine owp_panic (by simp [hop]) hrun ?_
  exact .of m (.pan (.d (.ifc t ag cs))) s k g ⟨_, [], rfl, by simp, hr⟩ st

/-- What an operation that calls leads to. -/
def Leads (P : Program) : Next → World → (Ending → World → Prop) → Prop
  | .enter f args, w, R => Calls P f args w R
  | .round l f tmps assign body, w, R => RoundIn Fence.wide 0 P l f tmps assign body w R
  | _, _, _ => False

theorem Leads.mono {nx : Next} {w : World} {R R' : Ending → World → Prop} (h : Leads P nx w R) (hr : ∀ e w', R e w' → R' e w') : Leads P nx w R' := by
  cases nx <;> simp only [Leads] at h ⊢
  · exact Calls.mono h hr
  · exact RoundIn.mono h hr

theorem owp_leads {r : Option Nat} {o : Oper} {a : Act} {w w' : World} {nx : Next} {next : Act → World → Prop} {Q : Exit → Act → World → Prop} (hrun : (execOp a.eval o).run P w = .ok nx w')
    (h : Leads P nx w' fun
      | .returned v, w'' => next (a.put o.dst v) w''
      | .panicked chain, w'' => Q (.panic chain) a w''
      | .outgrown, _ => LetsOut Q) : o.wpIn (wr r) 0 P a w next Q := by
  refine ⟨fun _ _ => trivial, ?_⟩
  cases nx <;> simp only [Leads] at h
  · rw [sem_at (not_defer hrun (by simp)), hrun]
    exact ⟨fun h => by simp [wr, Fence.wide] at h, wr_calls h⟩
  · rw [sem_at (not_defer hrun (by simp)), hrun]
    exact ⟨fun h => by simp [wr, Fence.wide] at h, h⟩

/-- The frame rule: what is led to is given the resources L1 out of L1 ++ L2. -/
theorem core {o : Oper} {L1 L2 : Heap} {R : AE → Heap → Prop}
    (hL : s.L.Perm (L1 ++ L2)) (hon : L1.all (fun p => Res.on (keys L1) p.2) = true)
    (hL2 : ∀ p ∈ L2, Res.on (keys L2 ++ (L1.filterMap fun p => match p.2 with | .box (_ + 1) _ _ => some p.1 | _ => none)) p.2 = true)
    (hstay : ∀ r L1', R r L1' → (∀ k ∈ keys L1', k ∉ keys L2) ∧ ∀ k b ty cs, (k, Res.box (b + 1) ty cs) ∈ L1 → ∃ ty' cs', (k, Res.box (b + 1) ty' cs') ∈ L1')
    {fo : FO} {m : Nat → Option Value} {a : Act} {w : World}
    (h : ∀ (fo1 : FO) (m1 : Nat → Option Value), (∀ b, OO fo1 m1 b ↔ OO fo m b) → (∀ h x, h ∈ keys L1 → m h = some x → m1 h = some x) → Inv fo1 m1 L1 w → ∃ nx, (execOp a.eval o).run P w = .ok nx w ∧ Leads P nx w (CPost fo1 m1 w R))
    (g : G fo n m s a w) {next : Act → World → Prop} {Q' : Exit → Act → World → Prop}
    (k : ∀ x L1' mm v w', R (.ret x) L1' → RelV w' (OO fo mm) mm v x → Inv fo mm (L1' ++ L2) w' → Step w (own m) w' (own mm) →
      (∀ h y, h ∈ keys L2 ++ (L1.filterMap fun p => match p.2 with | .box (_ + 1) _ _ => some p.1 | _ => none) → m h = some y → mm h = some y) →
      Keep w (OO fo m) w' → (∀ b, b < w.heap.size → OO fo mm b → OO fo m b) → next (a.put o.dst v) w')
    (kp : ∀ x L1' mm ch w', R (.pan x) L1' → Chain w' (OO fo mm) mm ch x → Inv fo mm (L1' ++ L2) w' → Step w (own m) w' (own mm) →
      (∀ h y, h ∈ keys L2 ++ (L1.filterMap fun p => match p.2 with | .box (_ + 1) _ _ => some p.1 | _ => none) → m h = some y → mm h = some y) →
      Keep w (OO fo m) w' → (∀ b, b < w.heap.size → OO fo mm b → OO fo m b) → Q' (.panic ch) a w') : o.wpIn (wr fo.r) 0 P a w next Q' := by
  classical
  have hi := g.inv
  have hkeys : ∀ x, x ∈ keys s.L ↔ x ∈ keys L1 ∨ x ∈ keys L2 := by
    intro x
    have : (keys s.L).Perm (keys (L1 ++ L2)) := hL.map _
    rw [this.mem_iff]
    simp [keys]
  have hnd : (keys L1).Nodup ∧ (keys L2).Nodup ∧ ∀ x, x ∈ keys L1 → x ∉ keys L2 := by
    have hp : (keys s.L).Perm (keys L1 ++ keys L2) := by simpa [keys] using hL.map (·.1)
    have := hp.nodup_iff.1 hi.nodup
    rw [List.nodup_append] at this
    exact ⟨this.1, this.2.1, fun x h1 h2 => this.2.2 x h1 x h2 rfl⟩
  let m1 : Nat → Option Value := fun h => if h ∈ keys L1 then m h else none
  let m2 : Nat → Option Value := fun h => if h ∈ keys L2 then m h else none
  have hm1 : ∀ h x, m1 h = some x → m h = some x ∧ h ∈ keys L1 := by
    intro h x hx
    by_cases hh : h ∈ keys L1
    · simp only [m1, if_pos hh] at hx; exact ⟨hx, hh⟩
    · simp only [m1, if_neg hh] at hx; cases hx
  have hm2 : ∀ h x, m2 h = some x → m h = some x ∧ h ∈ keys L2 := by
    intro h x hx
    by_cases hh : h ∈ keys L2
    · simp only [m2, if_pos hh] at hx; exact ⟨hx, hh⟩
    · simp only [m2, if_neg hh] at hx; cases hx
  have hm1' : ∀ h x, h ∈ keys L1 → m h = some x → m1 h = some x := fun h x hh hx => by simp only [m1, if_pos hh]; exact hx
  have hm2' : ∀ h x, h ∈ keys L2 → m h = some x → m2 h = some x := fun h x hh hx => by simp only [m2, if_pos hh]; exact hx
  let fo1 : FO := fun b => fo b ∨ own m2 b
  have hown : ∀ b, own m b ↔ own m1 b ∨ own m2 b := by
    intro b
    constructor
    · rintro ⟨h, x, hx, hb⟩
      rcases (hkeys h).1 (hi.dom h x hx) with hh | hh
      · exact .inl ⟨h, x, hm1' h x hh hx, hb⟩
      · exact .inr ⟨h, x, hm2' h x hh hx, hb⟩
    · rintro (⟨h, x, hx, hb⟩ | ⟨h, x, hx, hb⟩)
      · exact ⟨h, x, (hm1 h x hx).1, hb⟩
      · exact ⟨h, x, (hm2 h x hx).1, hb⟩
  have hOO : ∀ b, OO fo1 m1 b ↔ OO fo m b := by
    intro b
    unfold OO
    rw [hown b]
    constructor
    · rintro (h | h | h)
      · exact .inl (.inl h)
      · exact .inr h
      · exact .inl (.inr h)
    · rintro ((h | h) | h)
      · exact .inl h
      · exact .inr (.inr h)
      · exact .inr (.inl h)
  have hi1 : Inv fo1 m1 L1 w := by
    refine ⟨hnd.1, fun h x hx => (hm1 h x hx).2, ?_, ?_, ?_, ?_⟩
    · intro h h' x x' b hx hx' hb hb'
      exact hi.apart h h' x x' b (hm1 h x hx).1 (hm1 h' x' hx').1 hb hb'
    · rintro h x b hx hb (hf | ⟨h', x', hx', hb'⟩)
      · exact hi.others h x b (hm1 h x hx).1 hb hf
      · have := hi.apart h h' x x' b (hm1 h x hx).1 (hm2 h' x' hx').1 hb hb'
        subst this
        exact hnd.2.2 h (hm1 h x hx).2 (hm2 h x' hx').2
    · rintro b (hf | ⟨h', x', hx', hb'⟩)
      · exact hi.folt b hf
      · exact hi.lt (hm2 h' x' hx').1 hb'
    · intro h r hr
      obtain ⟨x, hx, hh⟩ := hi.holds h r (hL.mem_iff.2 (List.mem_append_left _ hr))
      have hk : h ∈ keys L1 := List.mem_map.2 ⟨_, hr, rfl⟩
      rw [List.all_eq_true] at hon
      exact ⟨x, hm1' h x hk hx, (hh.on hm1' (hon _ hr)).mono (fun _ _ => rfl) (Keep.refl w _) (fun b _ hb => (hOO b).1 hb) (fun _ _ e => e)⟩
  obtain ⟨nx, h1, hlead⟩ := h fo1 m1 hOO hm1' hi1
  refine owp_leads h1 ?_
  refine hlead.mono ?_
  rintro e w' ⟨m1', r, L1', hR, he', hi', st'⟩
  obtain ⟨hdis, hbox⟩ := hstay r L1' hR
  let mm : Nat → Option Value := fun h => if h ∈ keys L1' then m1' h else m2 h
  have hmm1 : ∀ h y, m1' h = some y → mm h = some y := fun h y hy => by simp only [mm, if_pos (hi'.dom h y hy)]; exact hy
  have hmm2 : ∀ h y, m2 h = some y → mm h = some y := by
    intro h y hy
    have : h ∉ keys L1' := fun hh => hdis h hh (hm2 h y hy).2
    simp only [mm, if_neg this]; exact hy
  have hmmi : ∀ h y, mm h = some y → (m1' h = some y ∧ h ∈ keys L1') ∨ (m2 h = some y ∧ h ∉ keys L1') := by
    intro h y hy
    by_cases hh : h ∈ keys L1'
    · simp only [mm, if_pos hh] at hy; exact .inl ⟨hy, hh⟩
    · simp only [mm, if_neg hh] at hy; exact .inr ⟨hy, hh⟩
  have hownm : ∀ b, own mm b ↔ own m1' b ∨ own m2 b := by
    intro b
    constructor
    · rintro ⟨h, y, hy, hb⟩
      rcases hmmi h y hy with ⟨hy, _⟩ | ⟨hy, _⟩
      · exact .inl ⟨h, y, hy, hb⟩
      · exact .inr ⟨h, y, hy, hb⟩
    · rintro (⟨h, y, hy, hb⟩ | ⟨h, y, hy, hb⟩)
      · exact ⟨h, y, hmm1 h y hy, hb⟩
      · exact ⟨h, y, hmm2 h y hy, hb⟩
  have hOOm : ∀ b, OO fo mm b ↔ OO fo1 m1' b := by
    intro b
    unfold OO
    rw [hownm b]
    constructor
    · rintro ((h | h) | h)
      · exact .inl h
      · exact .inr (.inr h)
      · exact .inr (.inl h)
    · rintro (h | h | h)
      · exact .inl (.inl h)
      · exact .inr h
      · exact .inl (.inr h)
  have hO' : ∀ b, b < w.heap.size → OO fo mm b → OO fo m b := by
    intro b hb ho'
    rcases (hOOm b).1 ho' with h | h | h
    · exact .inl ((hown b).2 (.inl (st'.owned b hb h)))
    · exact .inr h
    · exact .inl ((hown b).2 (.inr h))
  have hkeep : Keep w (OO fo m) w' := ⟨st'.size, fun b hb hno => st'.block b hb (fun h => hno (.inl ((hown b).2 (.inl h))))⟩
  have hboxm : ∀ h y, h ∈ keys L2 ++ (L1.filterMap fun p => match p.2 with | .box (_ + 1) _ _ => some p.1 | _ => none) → m h = some y → mm h = some y := by
    intro h y hh hy
    rcases List.mem_append.1 hh with hh | hh
    · exact hmm2 h y (hm2' h y hh hy)
    · obtain ⟨p, hp, hpe⟩ := List.mem_filterMap.1 hh
      obtain ⟨q, r⟩ := p
      cases r with
      | row ty k xs => simp at hpe
      | env A => simp at hpe
      | mp es => simp at hpe
      | box b0 ty cs =>
        cases b0 with
        | zero => simp at hpe
        | succ b =>
        simp only [Option.some.injEq] at hpe
        subst hpe
        obtain ⟨ty', cs', hb'⟩ := hbox q b ty cs hp
        obtain ⟨z, hz, hzh⟩ := hi'.holds q _ hb'
        obtain ⟨bb1, hb1, cur', e1, _⟩ := hzh
        obtain ⟨u, hu, huh⟩ := hi1.holds q _ hp
        obtain ⟨bb2, hb2, cur, e2, _⟩ := huh
        obtain rfl : bb1 = b := by omega
        obtain rfl : bb2 = bb1 := by omega
        have := (hm1 q u hu).1
        rw [hy] at this
        obtain rfl := Option.some.inj this
        rw [e2, ← e1]
        exact hmm1 q z hz
  have hinv : Inv fo mm (L1' ++ L2) w' := by
    refine ⟨?_, ?_, ?_, ?_, fun b hf => Nat.lt_of_lt_of_le (hi.folt b hf) st'.size, ?_⟩
    · show (keys (L1' ++ L2)).Nodup
      rw [show keys (L1' ++ L2) = keys L1' ++ keys L2 by simp [keys], List.nodup_append]
      exact ⟨hi'.nodup, hnd.2.1, fun x h1 y h2 e => hdis x h1 (by rw [e]; exact h2)⟩
    · intro h y hy
      show h ∈ keys (L1' ++ L2)
      rw [show keys (L1' ++ L2) = keys L1' ++ keys L2 by simp [keys]]
      rcases hmmi h y hy with ⟨_, hh⟩ | ⟨hy, _⟩
      · exact List.mem_append_left _ hh
      · exact List.mem_append_right _ (hm2 h y hy).2
    · intro h h' y y' b hy hy' hb hb'
      rcases hmmi h y hy with ⟨hy, _⟩ | ⟨hy, _⟩ <;> rcases hmmi h' y' hy' with ⟨hy', _⟩ | ⟨hy', _⟩
      · exact hi'.apart h h' y y' b hy hy' hb hb'
      · exact (hi'.others h y b hy hb (.inr ⟨h', y', hy', hb'⟩)).elim
      · exact (hi'.others h' y' b hy' hb' (.inr ⟨h, y, hy, hb⟩)).elim
      · exact hi.apart h h' y y' b (hm2 h y hy).1 (hm2 h' y' hy').1 hb hb'
    · intro h y b hy hb hf
      rcases hmmi h y hy with ⟨hy, _⟩ | ⟨hy, _⟩
      · exact hi'.others h y b hy hb (.inl hf)
      · exact hi.others h y b (hm2 h y hy).1 hb hf
    · intro h r hr
      rcases List.mem_append.1 hr with hr | hr
      · obtain ⟨z, hz, hzh⟩ := hi'.holds h r hr
        exact ⟨z, hmm1 h z hz, hzh.mono (fun _ _ => rfl) (Keep.refl w' _) (fun b _ hb => (hOOm b).1 hb) hmm1⟩
      · obtain ⟨z, hz, hzh⟩ := hi.holds h r (hL.mem_iff.2 (List.mem_append_right _ hr))
        have hk : h ∈ keys L2 := List.mem_map.2 ⟨_, hr, rfl⟩
        refine ⟨z, hmm2 h z (hm2' h z hk hz), (hzh.on hboxm (hL2 _ hr)).mono (fun b hb => ?_) hkeep hO' (fun _ _ e => e)⟩
        exact st'.block b (hi.lt hz hb) (fun ho1 => by
          obtain ⟨h', y', hy', hb'⟩ := ho1
          have := hi.apart h h' z y' b hz (hm1 h' y' hy').1 hb hb'
          subst this
          exact hnd.2.2 h (hm1 h y' hy').2 hk)
  have stt : Step w (own m) w' (own mm) := by
    refine ⟨st'.os, st'.tape, st'.output, st'.size, fun b hb hno => st'.block b hb (fun h => hno ((hown b).2 (.inl h))), fun b hb ho' => ?_⟩
    rcases (hownm b).1 ho' with h | h
    · exact (hown b).2 (.inl (st'.owned b hb h))
    · exact (hown b).2 (.inr h)
  cases e with
  | panicked ch =>
    cases r with
    | ret x => simp only [Ends] at he'
    | pan x =>
      simp only [Ends] at he'
      obtain ⟨v, older, rfl, hold, hv⟩ := he'
      have hrx : RelV w' (OO fo mm) mm v x := hv.mono (Keep.refl w' _) (fun b _ hb => (hOOm b).1 hb) hmm1
      exact kp x L1' mm _ w' hR ⟨v, older, rfl, hold, hrx⟩ hinv stt hboxm hkeep hO'
  | outgrown => cases r <;> simp only [Ends] at he'
  | returned v =>
    cases r with
    | pan x => simp only [Ends] at he'
    | ret x =>
      simp only [Ends] at he'
      have hrx : RelV w' (OO fo mm) mm v x := he'.mono (Keep.refl w' _) (fun b _ hb => (hOOm b).1 hb) hmm1
      exact k x L1' mm v w' hR hrx hinv stt hboxm hkeep hO'

theorem call_coreP {o : Oper} {c : Call} {f : FuncId} {args : List V} {L1 L2 : Heap} {R : AE → Heap → Prop}
    (hop : o.op = .call c) (hc : callee s.ev c = some (f, args)) (he : enters P f = true) (ho : V.ons (keys L1) args = true) (hL : s.L.Perm (L1 ++ L2)) (hon : L1.all (fun p => Res.on (keys L1) p.2) = true)
    (hL2 : ∀ p ∈ L2, Res.on (keys L2 ++ (L1.filterMap fun p => match p.2 with | .box (_ + 1) _ _ => some p.1 | _ => none)) p.2 = true)
    (h : ACalls P f args L1 R)
    (hstay : ∀ r L1', R r L1' → (∀ k ∈ keys L1', k ∉ keys L2) ∧ ∀ k b ty cs, (k, Res.box (b + 1) ty cs) ∈ L1 → ∃ ty' cs', (k, Res.box (b + 1) ty' cs') ∈ L1')
    {fo : FO} {m : Nat → Option Value} {a : Act} {w : World} (g : G fo n m s a w) {next : Act → World → Prop} {Q' : Exit → Act → World → Prop}
    (k : ∀ x L1' mm v w', R (.ret x) L1' → RelV w' (OO fo mm) mm v x → Inv fo mm (L1' ++ L2) w' → Step w (own m) w' (own mm) →
      (∀ h y, h ∈ keys L2 ++ (L1.filterMap fun p => match p.2 with | .box (_ + 1) _ _ => some p.1 | _ => none) → m h = some y → mm h = some y) →
      Keep w (OO fo m) w' → (∀ b, b < w.heap.size → OO fo mm b → OO fo m b) → next (a.put o.dst v) w')
    (kp : ∀ x L1' mm ch w', R (.pan x) L1' → Chain w' (OO fo mm) mm ch x → Inv fo mm (L1' ++ L2) w' → Step w (own m) w' (own mm) →
      (∀ h y, h ∈ keys L2 ++ (L1.filterMap fun p => match p.2 with | .box (_ + 1) _ _ => some p.1 | _ => none) → m h = some y → mm h = some y) →
      Keep w (OO fo m) w' → (∀ b, b < w.heap.size → OO fo mm b → OO fo m b) → Q' (.panic ch) a w') : o.wpIn (wr fo.r) 0 P a w next Q' := by
  obtain ⟨xs, h1, h2⟩ := call_enters (P := P) (w := w) (m := m) (O := OO fo m) hop hc he (fun z _ => eval_rel g z)
  refine core hL hon hL2 hstay (fun fo1 m1 hOO hm1' hi1 => ⟨_, h1, ?_⟩) g k kp
  refine h fo1 m1 w xs hi1 ⟨h2.1, fun j v y hv hy => ?_⟩
  exact ((h2.2 j v y hv hy).on hm1' (ons_mem ho y (List.mem_of_getElem? hy))).mono (Keep.refl w _) (fun b _ hb => (hOO b).1 hb) (fun _ _ e => e)

/-- A call that may panic, given the resources of L1. -/
theorem AOps.callP {o : Oper} {rest : List Oper} {c : Call} {f : FuncId} {args : List V} {L1 L2 : Heap} {R : AE → Heap → Prop} (hg : o.guard = none) (hd : ∀ d, o.dst = some d → d < n)
    (hop : o.op = .call c) (hc : callee s.ev c = some (f, args)) (he : enters P f = true) (ho : V.ons (keys L1) args = true) (hL : s.L.Perm (L1 ++ L2)) (hon : L1.all (fun p => Res.on (keys L1) p.2) = true)
    (hfr : ∀ p ∈ s.fr, V.on (keys L2 ++ (L1.filterMap fun p => match p.2 with | .box (_ + 1) _ _ => some p.1 | _ => none)) p.2 = true)
    (hL2 : ∀ p ∈ L2, Res.on (keys L2 ++ (L1.filterMap fun p => match p.2 with | .box (_ + 1) _ _ => some p.1 | _ => none)) p.2 = true)
    (h : ACalls P f args L1 R)
    (hstay : ∀ r L1', R r L1' → (∀ k ∈ keys L1', k ∉ keys L2) ∧ ∀ k b ty cs, (k, Res.box (b + 1) ty cs) ∈ L1 → ∃ ty' cs', (k, Res.box (b + 1) ty' cs') ∈ L1')
    (k : ∀ x L1', R (.ret x) L1' → AOps P n ops rest (St.put { s with L := L1' ++ L2 } o.dst x) Q)
    (kp : ∀ x L1', R (.pan x) L1' → Q (.pan x) { s with L := L1' ++ L2 }) : AOps P n ops (o :: rest) s Q := by
  intro fo m0 w0 m a w st g
  unfold wpListIn
  rw [if_pos (by simp [Region.wanted, hg])]
  refine call_coreP hop hc he ho hL hon hL2 h hstay g (fun x L1' mm v w' hR hrx hinv stt hbx hkeep hO' => ?_) (fun x L1' mm ch w' hR hch hinv stt hbx hkeep hO' => ?_)
  · have g' : G fo n mm { s with L := L1' ++ L2 } a w' := ⟨g.size, fun t y hy => by
      obtain ⟨q1, q2⟩ := g.fr t y hy
      exact ⟨q1, (q2.on hbx (hfr _ hy)).mono hkeep hO' (fun _ _ e => e)⟩, hinv, g.defers⟩
    exact k x L1' hR fo m0 w0 mm _ w' (st.trans stt) (g'.put hd hrx)
  · have g' : G fo n mm { s with L := L1' ++ L2 } a w' := ⟨g.size, fun t y hy => by
      obtain ⟨q1, q2⟩ := g.fr t y hy
      exact ⟨q1, (q2.on hbx (hfr _ hy)).mono hkeep hO' (fun _ _ e => e)⟩, hinv, g.defers⟩
    exact .of mm (.pan x) _ (kp x L1' hR) g' hch (st.trans stt)
end
end Go.Ab

/-
  The engine, part Rf: ranges over functions: yields, iterators, what is owned as one bundle.
-/
set_option linter.unusedSimpArgs false
set_option linter.unusedVariables false
namespace Go.Ab

section
variable {P : Program} {n : Nat} {s : St} {Q : AX → St → Prop} {ops : Array Oper}

/-! ### Yields -/

/-- The value of yield number l. -/
def yv (l : Nat) : V := .d (.v (.func (.yield l) #[] #[]))
def yieldee (ρ : Operand → V) (c : Call) : Option (Nat × List V) :=
  match c.callee with
  | .value fo => match ρ fo with
    | .d (.v (.func (.yield l) first _)) => if first.isEmpty then some (l, c.args.toList.map ρ) else none
    | _ => none
  | _ => none

/-- yield number l is called with args, and given the resources L. -/
def AYield (P : Program) (l : Nat) (args : List V) (L : Heap) (R : AE → Heap → Prop) : Prop :=
  ∀ (fo : FO) (m : Nat → Option Value) (w : World) (xs : Array Value), Inv fo m L w → RelVs w (OO fo m) m xs args → ∃ nx, (Instr.yield l xs).run P w = .ok nx w ∧ Leads P nx w (CPost fo m w R)

/-- yield says whether it goes on. -/
def YR (A B : Env) (r : AE) (L : Heap) : Prop := (r = .ret (.d (.v (.bool true))) ∧ L = [(5003, .env A)]) ∨ (r = .ret (.d (.v (.bool false))) ∧ L = [(5003, .env B)])

/-- A function that calls yield for each of xs, until it says false. -/
def Iter (P : Program) (f : FuncId) (caps : List V) (Lc : Heap) (xs : List (List V)) : Prop :=
  ∀ (l : Nat) (A : Nat → Env) (B : Env), (∀ i x, xs[i]? = some x → AYield P l x [(5003, .env (A i))] (YR (A (i + 1)) B)) →
    ACalls P f (yv l :: caps) ((5003, .env (A 0)) :: Lc) (fun r L' => (∃ y, r = .ret y) ∧ (L' = [(5003, .env (A xs.length))] ∨ L' = [(5003, .env B)]))

theorem yield_run {o : Oper} {c : Call} {l : Nat} {args : List V} {ρ : Operand → Value} {ρa : Operand → V} {w : World} {O : Nat → Prop} {m : Nat → Option Value} (hop : o.op = .call c) (hc : yieldee ρa c = some (l, args))
    (hr : ∀ z, z ∈ o.op.operands → RelV w O m (ρ z) (ρa z)) : RelVs w O m (c.args.map ρ) args ∧ (execOp ρ o).run P w = (Instr.yield l (c.args.map ρ)).run P w := by
  unfold yieldee at hc
  split at hc
  · rename_i fop hcal
    split at hc
    · rename_i l' first caps hfo
      split at hc
      · rename_i he
        simp only [Option.some.injEq, Prod.mk.injEq] at hc
        obtain ⟨rfl, rfl⟩ := hc
        have h1 := hr fop (by rw [hop]; simp [Op.operands, Call.operands, hcal])
        rw [hfo] at h1
        have h2 := h1.v_inv
        have hf : first = #[] := by simpa using he
        subst hf
        refine ⟨⟨by simp, map_rel2 c.args fun z hz => hr z (by rw [hop]; simp [Op.operands, Call.operands, hz])⟩, ?_⟩
        simp [execOp, hop, resolve, hcal, h2, Deferred.ofValue, Sem.run_bind, invoke]
      · cases hc
    · cases hc
  · cases hc

/-- What the call of a yield leaves, in a list of operations. -/
theorem AOps.yieldW {o : Oper} {rest : List Oper} {c : Call} {l : Nat} {args : List V} {A A' B : Env} (hw : ∀ {fo : FO} {m : Nat → Option Value} {a : Act} {w : World}, G fo n m s a w → Region.wanted o (yielded ops a.tmps) = true) (hd : ∀ d, o.dst = some d → d < n)
    {ρa : Operand → V} (hρ : ∀ z, z ∈ o.op.operands → ∀ w O m v, RelV w O m v (s.ev z) → RelV w O m v (ρa z))
    (hop : o.op = .call c) (hc : yieldee ρa c = some (l, args)) (ha : V.ons [5003] args = true) {L2 : Heap} (hL : s.L.Perm ((5003, .env A) :: L2))
    (hfr : ∀ p ∈ s.fr, V.on (keys L2) p.2 = true) (hL2 : ∀ p ∈ L2, Res.on (keys L2) p.2 = true) (hk : 5003 ∉ keys L2) (h : AYield P l args [(5003, .env A)] (YR A' B)) (wrap : V → V) (hwr : ∀ {w O m v x}, RelV w O m v x → RelV w O m v (wrap x))
    (kt : AOps P n ops rest (St.put { s with L := (5003, .env A') :: L2 } o.dst (wrap (.d (.v (.bool true))))) Q) (kf : AOps P n ops rest (St.put { s with L := (5003, .env B) :: L2 } o.dst (wrap (.d (.v (.bool false))))) Q) : AOps P n ops (o :: rest) s Q := by
  intro fo m0 w0 m a w st g
  unfold wpListIn
  rw [if_pos (hw g)]
  have hrho : ∀ z, z ∈ o.op.operands → RelV w (OO fo m) m (a.eval z) (ρa z) := fun z hz => hρ z hz _ _ _ _ (eval_rel g z)
  refine core (L1 := [(5003, .env A)]) (L2 := L2) (R := YR A' B) hL (by simp [Res.on]) (fun p hp => by simpa using hL2 p hp) ?_ (fun fo1 m1 hOO hm1' hi1 => ?_) g
    (fun x L1' mm v w' hR hrx hinv stt hbx' hkeep hO' => ?_) (fun x L1' mm ch w' hR => by rcases hR with ⟨h, _⟩ | ⟨h, _⟩ <;> cases h)
  · rintro r L1' (⟨_, rfl⟩ | ⟨_, rfl⟩) <;> exact ⟨by simpa [keys] using hk, by simp⟩
  · obtain ⟨h1, h2⟩ := yield_run (P := P) (w := w) hop hc hrho
    rw [h2]
    refine h fo1 m1 w _ hi1 ⟨h1.1, fun j v y hv hy => ?_⟩
    exact ((h1.2 j v y hv hy).on hm1' (by simpa [keys] using ons_mem ha y (List.mem_of_getElem? hy))).mono (Keep.refl w _) (fun b _ hb => (hOO b).1 hb) (fun _ _ e => e)
  · have hbx2 : ∀ h y, h ∈ keys L2 → m h = some y → mm h = some y := fun h y hh => hbx' h y (List.mem_append_left _ hh)
    have g' : G fo n mm { s with L := L1' ++ L2 } a w' := ⟨g.size, fun t y hy => by
      obtain ⟨q1, q2⟩ := g.fr t y hy
      exact ⟨q1, (q2.on hbx2 (hfr _ hy)).mono hkeep hO' (fun _ _ e => e)⟩, hinv, g.defers⟩
    rcases hR with ⟨h1, rfl⟩ | ⟨h1, rfl⟩
    · obtain rfl := AE.ret.inj h1
      exact kt fo m0 w0 mm _ w' (st.trans stt) (g'.put hd (hwr hrx))
    · obtain rfl := AE.ret.inj h1
      exact kf fo m0 w0 mm _ w' (st.trans stt) (g'.put hd (hwr hrx))

theorem perm_out {h : Nat} {r : Res} : ∀ {L : Heap}, (keys L).Nodup → L.lookup h = some r → L.Perm ((h, r) :: L.filter (fun p => p.1 != h))
  | [], _, hl => by cases hl
  | (k, q) :: L, hn, hl => by
    simp only [keys, List.map_cons, List.nodup_cons] at hn
    rw [List.lookup_cons] at hl
    by_cases e : h = k
    · subst e
      simp only [beq_self_eq_true, Option.some.injEq] at hl
      subst hl
      have : L.filter (fun p => p.1 != h) = L := by
        rw [List.filter_eq_self]
        intro p hp
        have : p.1 ≠ h := fun e => hn.1 (e ▸ List.mem_map.2 ⟨p, hp, rfl⟩)
        simpa using this
      simp [List.filter_cons, this]
    · have e' : (h == k) = false := by simpa using e
      rw [e'] at hl
      have hf : ((k, q).1 != h) = true := by simpa using Ne.symm e
      rw [List.filter_cons, hf]
      exact ((perm_out hn.2 hl).cons _).trans (List.Perm.swap _ _ _)

/-- The yield that comes next. -/
theorem AOps.yieldI {o : Oper} {rest : List Oper} {c : Call} {l : Nat} {args : List V} {A A' B : Env} (h : AYield P l args [(5003, .env A)] (YR A' B)) (hop : o.op = .call c) (hc : yieldee s.ev c = some (l, args)) (ha : V.ons [5003] args = true) (hg : o.guard = none)
    (hd : ∀ d, o.dst = some d → d < n) (hr : dstsOk n rest = true) (hn : (keys s.L).Nodup) (hL : s.L.lookup 5003 = some (.env A))
    (hfr : s.fr.all (fun p => V.on (keys (s.L.filter fun p => p.1 != 5003)) p.2) = true) (hL2 : (s.L.filter fun p => p.1 != 5003).all (fun p => Res.on (keys (s.L.filter fun p => p.1 != 5003)) p.2) = true)
    (kt : ∀ bs, runC P ops rest (St.put { s with L := (5003, .env A') :: s.L.filter fun p => p.1 != 5003 } o.dst (.d (.v (.bool true)))) bs [] (KK P n ops Q))
    (kf : ∀ bs, runC P ops rest (St.put { s with L := (5003, .env B) :: s.L.filter fun p => p.1 != 5003 } o.dst (.d (.v (.bool false)))) bs [] (KK P n ops Q)) : AOps P n ops (o :: rest) s Q :=
  AOps.yieldW (fun _ => by simp [Region.wanted, hg]) hd (fun _ _ _ _ _ _ h => h) hop hc ha (perm_out hn hL) (fun p hp => List.all_eq_true.1 hfr p hp) (fun p hp => List.all_eq_true.1 hL2 p hp) (by simp [keys]) h id (fun h => h)
    (runC_sound rest _ [] hr kt) (runC_sound rest _ [] hr kf)

/-- The same under a guard that is known. -/
theorem AOps.yieldG {o : Oper} {rest : List Oper} {c : Call} {l : Nat} {args : List V} {A A' B : Env} {b : Bool} (h : b = true → AYield P l args [(5003, .env A)] (YR A' B)) (hop : o.op = .call c) (hgd : guardV ops s o = some (some b)) (hu : b = true → uncs s o.op.operands.toList) (hc : b = true → yieldee (fun z => (s.ev z).un) c = some (l, args)) (ha : V.ons [5003] args = true)
    (hd : ∀ d, o.dst = some d → d < n) (hr : dstsOk n rest = true) (hn : (keys s.L).Nodup) (hL : s.L.lookup 5003 = some (.env A))
    (hfr : s.fr.all (fun p => V.on (keys (s.L.filter fun p => p.1 != 5003)) p.2) = true) (hL2 : (s.L.filter fun p => p.1 != 5003).all (fun p => Res.on (keys (s.L.filter fun p => p.1 != 5003)) p.2) = true)
    (kt : b = true → ∀ bs, runC P ops rest (St.put { s with L := (5003, .env A') :: s.L.filter fun p => p.1 != 5003 } o.dst (.gd true (.d (.v (.bool true))))) bs [] (KK P n ops Q))
    (kf : b = true → ∀ bs, runC P ops rest (St.put { s with L := (5003, .env B) :: s.L.filter fun p => p.1 != 5003 } o.dst (.gd true (.d (.v (.bool false))))) bs [] (KK P n ops Q))
    (kn : b = false → ∀ bs, runC P ops rest (s.put o.dst (.gd false .any)) bs [] (KK P n ops Q)) : AOps P n ops (o :: rest) s Q := by
  cases b with
  | true =>
    exact AOps.yieldW (fun g => guard_wanted g hgd) hd (fun z hz w O m v hr => un_rel hr (uncs_mem (hu rfl) z (by simpa using hz))) hop (hc rfl) ha (perm_out hn hL) (fun p hp => List.all_eq_true.1 hfr p hp) (fun p hp => List.all_eq_true.1 hL2 p hp) (by simp [keys]) (h rfl) (.gd true) (fun h => .gt _ _ h)
      (runC_sound rest _ [] hr (kt rfl)) (runC_sound rest _ [] hr (kf rfl))
  | false =>
    intro fo m0 w0 m a w st g
    unfold wpListIn
    rw [if_neg (by rw [guard_wanted g hgd]; simp)]
    exact ⟨fun _ _ => trivial, runC_sound rest _ [] hr (kn rfl) fo m0 w0 m _ w st (g.put hd (.gf _))⟩

/-! ### Bundles -/

def comps : Value → List Value
  | .tuple vs => vs.toList
  | v => [v]
theorem blk_comps (x : Value) (b : Nat) : (∃ v ∈ comps x, blk1 v b) ↔ blk x b := by
  cases x <;> simp [comps, blk, blk1]

/-- The value of a bundle: the loop's record, and what L owns. -/
def bval (l : Nat) (L : Heap) (m : Nat → Option Value) : Value :=
  .tuple (Value.pointer (some ⟨l, 0, none⟩) :: (keys L).flatMap (fun h => match m h with | some x => comps x | none => [])).toArray

theorem blk_bval {l : Nat} {L : Heap} {m : Nat → Option Value} (hd : ∀ h x, m h = some x → h ∈ keys L) (b : Nat) : blk (bval l L m) b ↔ b = l ∨ own m b := by
  simp only [bval, blk, List.mem_toArray, List.mem_cons, List.mem_flatMap]
  constructor
  · rintro ⟨v, rfl | ⟨h, hh, hv⟩, hb⟩
    · simp only [blk1] at hb; exact .inl hb.symm
    · right
      cases hx : m h with
      | none => rw [hx] at hv; cases hv
      | some x => rw [hx] at hv; exact ⟨h, x, hx, (blk_comps x b).1 ⟨v, hv, hb⟩⟩
  · rintro (rfl | ⟨h, x, hx, hb⟩)
    · exact ⟨_, .inl rfl, rfl⟩
    · obtain ⟨v, hv, hb'⟩ := (blk_comps x b).2 hb
      exact ⟨v, .inr ⟨h, hd h x hx, by rw [hx]; exact hv⟩, hb'⟩

structure Bun (w : World) (O : Nat → Prop) (l : Nat) (L : Heap) (m : Nat → Option Value) : Prop where
  nodup : (keys L).Nodup
  dom : ∀ h x, m h = some x → h ∈ keys L
  apart : ∀ h h' x x' b, m h = some x → m h' = some x' → blk x b → blk x' b → h = h'
  self : ¬ own m l
  holds : ∀ h r, (h, r) ∈ L → ∃ x, m h = some x ∧ r.Holds w O m x

theorem Bun.lt {w : World} {O : Nat → Prop} {l : Nat} {L : Heap} {m : Nat → Option Value} (hb : Bun w O l L m) {b : Nat} (h : own m b) : b < w.heap.size := by
  obtain ⟨h, x, hx, hbb⟩ := h
  obtain ⟨r, hr⟩ := mem_of_key (hb.dom h x hx)
  obtain ⟨x', hx', hh⟩ := hb.holds h r hr
  rw [hx] at hx'
  obtain rfl := Option.some.inj hx'
  exact hh.lt hbb

/-- The resources of a range over a function, while the function runs: the loop's record, and the caller's own. -/
def loopEnv (r0 : Loop) (l : Nat) (fr : List (Nat × V)) (J : LoopState → Option Code → Heap → Prop) : Env where
  H w O x := ∃ st pd L m, J st pd L ∧ x = bval l L m ∧ Bun w O l L m ∧ w.heap[l]? = some (.loop { r0 with state := st, pending := pd }) ∧ ∀ t y, (t, y) ∈ fr → RelV w O m (r0.tmps.getD t undef) y
  mono := by
    rintro w w' O O' x ⟨st, pd, L, m, hJ, rfl, hb, hl, hf⟩ hbl hk hO
    have hblk := fun b => blk_bval (l := l) (L := L) (m := m) hb.dom b
    refine ⟨st, pd, L, m, hJ, rfl, ⟨hb.nodup, hb.dom, hb.apart, hb.self, fun h r hr => ?_⟩, ?_, fun t y hy => (hf t y hy).mono hk hO (fun _ _ e => e)⟩
    · obtain ⟨x, hx, hh⟩ := hb.holds h r hr
      exact ⟨x, hx, hh.mono (fun b hbb => hbl b ((hblk b).2 (.inr ⟨h, x, hx, hbb⟩))) hk hO (fun _ _ e => e)⟩
    · rw [hbl l ((hblk l).2 (.inl rfl))]; exact hl
  lt := by
    rintro w O x b ⟨st, pd, L, m, hJ, rfl, hb, hl, hf⟩ hbb
    rcases (blk_bval (l := l) (L := L) (m := m) hb.dom b).1 hbb with rfl | h
    · exact (Array.getElem?_eq_some_iff.1 hl).1
    · exact hb.lt h

def one (x : Value) : Nat → Option Value := fun h => if h = 5003 then some x else none
theorem one_own (x : Value) (b : Nat) : own (one x) b ↔ blk x b := by
  constructor
  · rintro ⟨h, y, hy, hb⟩
    by_cases e : h = 5003
    · simp only [one, if_pos e, Option.some.injEq] at hy; subst hy; exact hb
    · simp only [one, if_neg e] at hy; cases hy
  · intro hb
    exact ⟨5003, x, by simp [one], hb⟩

/-- All that is owned, as one bundle. -/
theorem inv_bundle {fo fo' : FO} {r0 : Loop} {l : Nat} {fr : List (Nat × V)} {J : LoopState → Option Code → Heap → Prop} {m : Nat → Option Value} {L : Heap} {w : World} {st : LoopState} {pd : Option Code} (hf : ∀ b, fo.f b → fo'.f b) (hl : fo'.f l) (hlo : ¬ fo.f l)
    (hi : Inv fo' m L w) (hJ : J st pd L) (hrec : w.heap[l]? = some (.loop { r0 with state := st, pending := pd })) (hfr : ∀ t y, (t, y) ∈ fr → RelV w (OO fo' m) m (r0.tmps.getD t undef) y) :
    Inv fo (one (bval l L m)) [(5003, .env (loopEnv r0 l fr J))] w := by
  have hblk := fun b => blk_bval (l := l) (L := L) (m := m) hi.dom b
  have hO : ∀ b, OO fo (one (bval l L m)) b → OO fo' m b := by
    rintro b (h | h)
    · rcases (hblk b).1 ((one_own _ b).1 h) with rfl | h
      · exact .inr hl
      · exact .inl h
    · exact .inr (hf b h)
  refine ⟨by simp [keys], ?_, ?_, ?_, fun b h => hi.folt b (hf b h), ?_⟩
  · intro h x hx
    by_cases e : h = 5003
    · simp [keys, e]
    · simp only [one, if_neg e] at hx; cases hx
  · intro h h' x x' b hx hx' _ _
    have : ∀ {h x}, one (bval l L m) h = some x → h = 5003 := by
      intro h x hx
      by_cases e : h = 5003
      · exact e
      · simp only [one, if_neg e] at hx; cases hx
    rw [this hx, this hx']
  · intro h x b hx hb
    by_cases e : h = 5003
    · simp only [one, if_pos e, Option.some.injEq] at hx
      subst hx
      rcases (hblk b).1 hb with rfl | ⟨i, y, hy, hyb⟩
      · exact hlo
      · exact fun h => hi.others i y b hy hyb (hf b h)
    · simp only [one, if_neg e] at hx; cases hx
  · intro h r hr
    simp only [List.mem_singleton, Prod.mk.injEq] at hr
    obtain ⟨rfl, rfl⟩ := hr
    refine ⟨bval l L m, by simp [one], st, pd, L, m, hJ, rfl, ⟨hi.nodup, hi.dom, hi.apart, ?_, fun h r hr => ?_⟩, hrec, fun t y hy => (hfr t y hy).mono (Keep.refl w _) (fun b _ hb => hO b hb) (fun _ _ e => e)⟩
    · rintro ⟨i, y, hy, hb⟩; exact hi.others i y l hy hb hl
    · obtain ⟨x, hx, hh⟩ := hi.holds h r hr
      exact ⟨x, hx, hh.mono (fun _ _ => rfl) (Keep.refl w _) (fun b _ hb => hO b hb) (fun _ _ e => e)⟩

/-- The bundle, opened. -/
theorem inv_open {fo : FO} {m1 : Nat → Option Value} {r0 : Loop} {l : Nat} {fr : List (Nat × V)} {J : LoopState → Option Code → Heap → Prop} {w : World} (hi : Inv fo m1 [(5003, .env (loopEnv r0 l fr J))] w) (D : List Deferred) (rr : Option Nat) :
    ∃ st pd L m, J st pd L ∧ w.heap[l]? = some (.loop { r0 with state := st, pending := pd }) ∧ Inv ⟨fun b => fo.f b ∨ b = l, D, rr⟩ m L w ∧ (∀ t y, (t, y) ∈ fr → RelV w (OO ⟨fun b => fo.f b ∨ b = l, D, rr⟩ m) m (r0.tmps.getD t undef) y) ∧
      (∀ b, own m1 b ↔ b = l ∨ own m b) ∧ ¬ fo.f l := by
  obtain ⟨x, hx, st, pd, L, m, hJ, rfl, hb, hl, hf⟩ := hi.holds 5003 _ List.mem_cons_self
  have hblk := fun b => blk_bval (l := l) (L := L) (m := m) hb.dom b
  have hown : ∀ b, own m1 b ↔ b = l ∨ own m b := by
    intro b
    rw [← hblk b]
    constructor
    · rintro ⟨h, y, hy, hyb⟩
      have hk := hi.dom h y hy
      simp only [keys, List.map_cons, List.map_nil, List.mem_singleton] at hk
      subst hk
      rw [hx] at hy
      obtain rfl := Option.some.inj hy
      exact hyb
    · intro h; exact ⟨5003, _, hx, h⟩
  have hnot : ∀ b, own m1 b → ¬ fo.f b := by
    rintro b ⟨h, y, hy, hyb⟩
    exact hi.others h y b hy hyb
  have hO : ∀ b, OO ⟨fun b => fo.f b ∨ b = l, D, rr⟩ m b → OO fo m1 b := by
    rintro b (h | h | rfl)
    · exact .inl ((hown b).2 (.inr h))
    · exact .inr h
    · exact .inl ((hown _).2 (.inl rfl))
  refine ⟨st, pd, L, m, hJ, hl, ⟨hb.nodup, hb.dom, hb.apart, ?_, ?_, ?_⟩, fun t y hy => (hf t y hy).mono (Keep.refl w _) (fun b _ hb => hO b hb) (fun _ _ e => e), hown, hnot l ((hown l).2 (.inl rfl))⟩
  · rintro h y b hy hyb (hfo | rfl)
    · exact hnot b ((hown b).2 (.inr ⟨h, y, hy, hyb⟩)) hfo
    · exact hb.self ⟨h, y, hy, hyb⟩
  · rintro b (hfo | rfl)
    · exact hi.folt b hfo
    · exact (Array.getElem?_eq_some_iff.1 hl).1
  · intro h r hr
    obtain ⟨y, hy, hh⟩ := hb.holds h r hr
    exact ⟨y, hy, hh.mono (fun _ _ => rfl) (Keep.refl w _) (fun b _ hb => hO b hb) (fun _ _ e => e)⟩
end
end Go.Ab

/-
  The engine, part Rg: the rule of a range over a function.
-/
set_option linter.unusedSimpArgs false
set_option linter.unusedVariables false
namespace Go.Ab

section
variable {P : Program} {n : Nat} {s : St} {Q : AX → St → Prop}

def putPs : List (Nat × V) → List (Nat × V) → List (Nat × V)
  | [], fr => fr
  | (t, x) :: l, fr => putPs l ((t, x) :: delF t fr)

/-- The boxes of which the place is known. -/
def labs : Heap → List (Nat × Nat)
  | [] => []
  | (h, .box (b + 1) _ _) :: L => (h, b) :: labs L
  | _ :: L => labs L
theorem labs_mem {h b : Nat} : ∀ {L : Heap}, (h, b) ∈ labs L → ∃ ty cs, (h, Res.box (b + 1) ty cs) ∈ L
  | [], hm => by cases hm
  | (k, .box 0 ty cs) :: L, hm => by
    simp only [labs] at hm
    obtain ⟨ty', cs', h'⟩ := labs_mem hm
    exact ⟨ty', cs', List.mem_cons_of_mem _ h'⟩
  | (k, .box (c + 1) ty cs) :: L, hm => by
    simp only [labs, List.mem_cons, Prod.mk.injEq] at hm
    rcases hm with ⟨rfl, rfl⟩ | hm
    · exact ⟨ty, cs, List.mem_cons_self⟩
    · obtain ⟨ty', cs', h'⟩ := labs_mem hm
      exact ⟨ty', cs', List.mem_cons_of_mem _ h'⟩
  | (k, .row ty j xs) :: L, hm => by
    simp only [labs] at hm
    obtain ⟨ty', cs', h'⟩ := labs_mem hm
    exact ⟨ty', cs', List.mem_cons_of_mem _ h'⟩
  | (k, .env A) :: L, hm => by
    simp only [labs] at hm
    obtain ⟨ty', cs', h'⟩ := labs_mem hm
    exact ⟨ty', cs', List.mem_cons_of_mem _ h'⟩
  | (k, .mp es) :: L, hm => by
    simp only [labs] at hm
    obtain ⟨ty', cs', h'⟩ := labs_mem hm
    exact ⟨ty', cs', List.mem_cons_of_mem _ h'⟩

theorem labs_place {fo : FO} {m : Nat → Option Value} {L : Heap} {w : World} (hi : Inv fo m L w) {h : Nat} {x : Value} (hk : h ∈ (labs L).map (·.1)) (hx : m h = some x) : ∃ b, (h, b) ∈ labs L ∧ x = .pointer (some ⟨b, 0, none⟩) := by
  obtain ⟨⟨h', b⟩, hm, rfl⟩ := List.mem_map.1 hk
  obtain ⟨ty, cs, hm'⟩ := labs_mem hm
  obtain ⟨y, hy, bb, hbb, cur, rfl, _⟩ := hi.holds _ _ hm'
  simp only at hx
  rw [hx] at hy
  obtain rfl := Option.some.inj hy
  obtain rfl : bb = b := by omega
  exact ⟨bb, hm, rfl⟩

/-- The same boxes lie at the same places. -/
theorem labs_same {fo fo' : FO} {m m' : Nat → Option Value} {L L' : Heap} {w w' : World} (hi : Inv fo m L w) (hi' : Inv fo' m' L' w') (hl : labs L' = labs L) : ∀ h x, h ∈ (labs L).map (·.1) → m h = some x → m' h = some x := by
  intro h x hk hx
  obtain ⟨b, hb, rfl⟩ := labs_place hi hk hx
  rw [← hl] at hb
  obtain ⟨ty, cs, hm⟩ := labs_mem hb
  obtain ⟨y, hy, hyh⟩ := hi'.holds _ _ hm
  obtain ⟨b', h1, e⟩ := labs_place hi' (List.mem_map.2 ⟨_, hb, rfl⟩) hy
  obtain ⟨bb, hbb, cur, rfl, _⟩ := hyh
  obtain rfl : bb = b := by omega
  exact hy

def jumpAX : Option Code → AX → Prop
  | some .ret, .ret => True
  | some (.exit i), .exit j => i = j
  | some (.goto i), .goto j => i = j
  | _, _ => False

/-- What is asked at the end of a round: on with the next one, or out of the loop. -/
def RoundQ (hs : List Nat) (L0 L' : Heap) (Hn : Prop) (fr : List (Nat × V)) (K : AX → St → Prop) (x : AX) (s : St) : Prop :=
  match x with
  | .normal => (s.pick [] hs).on (keys (s.pick [] hs).L) = true ∧ (s.pick [] hs).L = L' ∧ Hn
  | .pan _ => False
  | x => (s.pick [] hs).on (keys (s.pick [] hs).L) = true ∧ labs (s.pick [] hs).L = labs L0 ∧ K x ⟨fr, (s.pick [] hs).L⟩

theorem fold_params {ps : List Tmp} {xs : List Value} : ∀ (T : Array Value), (((ps.zip xs).foldl (fun tmps (p : Tmp × Value) => tmps.setIfInBounds p.1 p.2) T)).size = T.size := by
  induction ps.zip xs with
  | nil => intro T; rfl
  | cons p l ih => intro T; rw [List.foldl_cons, ih]; simp

theorem params_rel {w : World} {O : Nat → Prop} {m : Nat → Option Value} : ∀ (ps : List Tmp) (xs : List Value) (ys : List V) (T : Array Value) (fr : List (Nat × V)), xs.length = ps.length → ys.length = ps.length → (∀ p : Tmp, p ∈ ps → p < T.size) →
    (∀ (j : Nat) (x : Value) (y : V), xs[j]? = some x → ys[j]? = some y → RelV w O m x y) → (∀ (t : Nat) (y : V), (t, y) ∈ fr → t < T.size ∧ RelV w O m (T.getD t undef) y) →
    ∀ (t : Nat) (y : V), (t, y) ∈ putPs (ps.zip ys) fr → t < T.size ∧ RelV w O m (((ps.zip xs).foldl (fun tmps (p : Tmp × Value) => tmps.setIfInBounds p.1 p.2) T).getD t undef) y
  | [], _, _, T, fr, _, _, _, _, hf, t, y, h => by simpa [putPs] using hf t y h
  | p :: ps, [], _, _, _, h, _, _, _, _, _, _, _ => by simp at h
  | p :: ps, x :: xs, [], _, _, _, h, _, _, _, _, _, _ => by simp at h
  | p :: ps, x :: xs, z :: ys, T, fr, h1, h2, hp, hr, hf, t, y, h => by
    simp only [List.zip_cons_cons, putPs, List.foldl_cons] at h ⊢
    have key := params_rel ps xs ys (T.setIfInBounds p x) ((p, z) :: delF p fr) (by simpa using h1) (by simpa using h2) (fun q hq => by simpa using hp q (List.mem_cons_of_mem _ hq)) (fun j x y hx hy => hr (j + 1) x y (by simpa using hx) (by simpa using hy)) (fun t y hm => by
      rcases List.mem_cons.1 hm with e | hm
      · simp only [Prod.mk.injEq] at e
        obtain ⟨rfl, rfl⟩ := e
        have hlt := hp t List.mem_cons_self
        refine ⟨by simpa using hlt, ?_⟩
        simpa [Array.getD, hlt] using hr 0 x y rfl rfl
      · obtain ⟨hm, hne⟩ := mem_delF hm
        obtain ⟨k1, k2⟩ := hf t y hm
        refine ⟨by simpa using k1, ?_⟩
        have : (T.setIfInBounds p x).getD t undef = T.getD t undef := by
          simp only [Array.getD, Array.size_setIfInBounds]
          have hne' : ¬ p = t := fun e => hne e.symm
          simp [k1, Array.getElem_setIfInBounds, hne']
        rw [this]; exact k2) t y h
    simpa using key

/-- One round. -/
theorem yield_of_body {r0 : Loop} {l : Nat} {fr : List (Nat × V)} {J J' JB : LoopState → Option Code → Heap → Prop} {args : List V} {L0 : Heap} {K : AX → St → Prop}
    (hrf : hasRF r0.assign = false ∧ hasRF r0.body = false) (hT : r0.tmps.size = n) (hps : args.length = r0.params.size) (hpn : ∀ p ∈ r0.params.toList, p < n) (ha : V.ons [] args = true)
    (hfr : ∀ t y, (t, y) ∈ fr → t < n ∧ V.on ((labs L0).map (·.1)) y = true)
    (hJ : ∀ st pd L, J st pd L → st = .ready ∧ pd = none ∧ labs L = labs L0)
    (hbody : ∀ st pd L, J st pd L → ∃ L' Hn, (Hn → J' .ready none L' ∧ labs L' = labs L0) ∧ codeK P n r0.assign ⟨putPs (r0.params.toList.zip args) fr, L⟩ (AX.then (fun s2 => codeK P n r0.body s2 (RoundQ (keys L0) L0 L' Hn fr K)) (fun _ _ => False)))
    (hnd : (keys L0).Nodup)
    (hJB : ∀ pd x L, jumpAX pd x → labs L = labs L0 → K x ⟨fr, L⟩ → JB .done pd L) :
    AYield P l args [(5003, .env (loopEnv r0 l fr J))] (YR (loopEnv r0 l fr J') (loopEnv r0 l fr JB)) := by
  intro fo m1 w xs hi hx
  obtain ⟨st, pd, L, m, hj, hrec, hi', hf, hown, hlo⟩ := inv_open hi [] (some l)
  obtain ⟨rfl, rfl, hlab⟩ := hJ _ _ _ hj
  obtain ⟨L', Hn, hn', hcode⟩ := hbody _ _ _ hj
  have hsz : xs.size = r0.params.size := by rw [hx.1, hps]
  let fo3 : FO := ⟨fun b => fo.f b ∨ b = l, [], some l⟩
  have hO : ∀ b, OO fo3 m b ↔ OO fo m1 b := by
    intro b
    unfold OO
    rw [hown b]
    constructor
    · rintro (h | h | h)
      · exact .inl (.inr h)
      · exact .inr h
      · exact .inl (.inl h)
    · rintro ((h | h) | h)
      · exact .inr (.inr h)
      · exact .inl h
      · exact .inr (.inl h)
  refine ⟨.round l r0.fn ((r0.params.zip xs).foldl (fun tmps (t, a) => tmps.setIfInBounds t a) r0.tmps) r0.assign r0.body, ?_, ?_⟩
  · simp [Instr.yield, Instr.getLoop, Sem.run_bind, run_getO hrec (by simp), hsz]
  · show RoundIn Fence.wide 0 P l r0.fn _ r0.assign r0.body w _
    have hfold : (r0.params.zip xs).foldl (fun tmps (t, a) => tmps.setIfInBounds t a) r0.tmps = (r0.params.toList.zip xs.toList).foldl (fun tmps (p : Tmp × Value) => tmps.setIfInBounds p.1 p.2) r0.tmps := by
      rw [← Array.foldl_toList, Array.toList_zip]
    rw [hfold]
    refine roundIn_of_wpIn (F := Fence.wide) trivial ?_
    have g : G fo3 n m ⟨putPs (r0.params.toList.zip args) fr, L⟩ { tmps := (r0.params.toList.zip xs.toList).foldl (fun tmps (p : Tmp × Value) => tmps.setIfInBounds p.1 p.2) r0.tmps, defers := [] } w := by
      refine ⟨by rw [fold_params]; exact hT, fun t y hy => ?_, hi', rfl⟩
      have := params_rel (w := w) (O := OO fo3 m) (m := m) r0.params.toList xs.toList args r0.tmps fr (by simpa using hsz) (by simpa using hps) (fun p hp => by rw [hT]; exact hpn p hp)
        (fun j x y hxj hyj => ((hx.2 j x y (by simpa using hxj) hyj).on (ks := []) (m' := m) (by simp) (ons_mem ha y (List.mem_of_getElem? hyj))).mono (Keep.refl w _) (fun b _ hb => (hO b).1 hb) (fun _ _ e => e))
        (fun t y hy => ⟨by rw [hT]; exact (hfr t y hy).1, hf t y hy⟩) t y hy
      rw [hT] at this
      exact this
    have h1 := codeK_sound _ _ _ hcode fo3 m _ w (fun h => by rw [hrf.1] at h; cases h) g
    refine Code.wpIn_mono (F := Fence.wide.inRound l) ?_ h1
    rintro e1 a1 w1 ⟨ms1, m2, x1, s1, hm1, hq1, g1, hx1, st1⟩
    have hlown : ¬ own m l := by
      rintro ⟨i, y, hy, hb⟩
      exact hi'.others i y l hy hb (.inr rfl)
    have hrec1 : w1.heap[l]? = some (.loop { r0 with state := .ready, pending := none }) := by
      rw [st1.block l (Array.getElem?_eq_some_iff.1 hrec).1 hlown]; exact hrec
    cases e1 with
    | normal =>
      cases x1 <;> simp only [Exits] at hx1
      simp only [AX.then] at hq1
      show ∃ w2, (Instr.beginRound l).run P w1 = .ok () w2 ∧ _
      refine ⟨setO w1 l (.loop { r0 with state := .busy, pending := none }), ?_, ?_⟩
      · simp [Instr.beginRound, Instr.getLoop, Sem.run_bind, run_getO hrec1 (by simp), run_setO hrec1 (by simp)]
      · have hl1 : l < w1.heap.size := (Array.getElem?_eq_some_iff.1 hrec1).1
        have g2 := g1.others (w' := setO w1 l (.loop { r0 with state := .busy, pending := none })) (by rw [setO_size]; exact Nat.le_refl _) (fun b _ hb => setO_ne (fun e => hb (.inl (.inr e))))
        have h2 := codeK_sound _ _ _ hq1 (fo3.mark ms1) m2 _ _ (fun h => by rw [hrf.2] at h; cases h) g2
        refine Code.wpIn_mono (F := Fence.wide.inRound l) ?_ h2
        rintro e3 a3 w3 ⟨ms3, m3, x3, s3, hm3, hq3, g3, hx3, st3⟩
        rw [FO.mark_mark] at g3 hx3
        generalize hfm : fo3.mark (ms3 ++ ms1) = fo4 at g3 hx3
        have hf4 : ∀ b, fo.f b → fo4.f b := fun b h => by subst hfm; exact .inl (.inl h)
        have hl4 : fo4.f l := by subst hfm; exact .inl (.inr rfl)
        have hl2own : ¬ own m2 l := by
          rintro ⟨i, y, hy, hb⟩
          exact g1.inv.others i y l hy hb (.inl (.inr rfl))
        have hrec3 : w3.heap[l]? = some (.loop { r0 with state := .busy, pending := none }) := by
          rw [st3.block l (by rw [setO_size]; exact hl1) hl2own]
          exact setO_same hl1
        have hl3 : l < w3.heap.size := (Array.getElem?_eq_some_iff.1 hrec3).1
        -- what is left behind the round, as one bundle again
        have fin : ∀ (st : LoopState) (pd : Option Code) (J2 : LoopState → Option Code → Heap → Prop), (s3.pick [] (keys L0)).on (keys (s3.pick [] (keys L0)).L) = true → labs (s3.pick [] (keys L0)).L = labs L0 → J2 st pd (s3.pick [] (keys L0)).L →
            ∃ m5, Inv fo m5 [(5003, .env (loopEnv r0 l fr J2))] (setO w3 l (.loop { r0 with state := st, pending := pd })) ∧ Step w (own m1) (setO w3 l (.loop { r0 with state := st, pending := pd })) (own m5) := by
          intro st pd J2 hon hlab2 hJ2
          obtain ⟨m4, g4, st4⟩ := Wk.pick [] (keys L0) (by simp) hnd hon fo4 m3 a3 w3 g3
          have g5 := g4.others (w' := setO w3 l (.loop { r0 with state := st, pending := pd })) (by rw [setO_size]; exact Nat.le_refl _) (fun b _ hb => setO_ne (fun e => hb (e ▸ hl4)))
          have hlab3 := labs_same hi' g5.inv (hlab2.trans hlab.symm)
          have hown4 : ∀ b, b < w.heap.size → own m4 b → own m b := fun b hb h4 => by
            have h3 := st4.owned b (Nat.lt_of_lt_of_le hb (Nat.le_trans st1.size (by have := st3.size; rwa [setO_size] at this))) h4
            have h2 := st3.owned b (by rw [setO_size]; exact Nat.lt_of_lt_of_le hb st1.size) h3
            exact st1.owned b hb h2
          have hsame : ∀ b, b < w.heap.size → ¬ own m b → b ≠ l → (setO w3 l (.loop { r0 with state := st, pending := pd })).heap[b]? = w.heap[b]? := by
            intro b hb ho hbl
            have hb1 := Nat.lt_of_lt_of_le hb st1.size
            rw [setO_ne hbl, st3.block b (by rw [setO_size]; exact hb1) (fun h => ho (st1.owned b hb h)), setO_ne hbl]
            exact st1.block b hb ho
          have hsize : w.heap.size ≤ (setO w3 l (.loop { r0 with state := st, pending := pd })).heap.size := by
            rw [setO_size]
            exact Nat.le_trans st1.size (by have := st3.size; rwa [setO_size] at this)
          have hkeep : Keep w (OO fo3 m) (setO w3 l (.loop { r0 with state := st, pending := pd })) := ⟨hsize, fun b hb ho => hsame b hb (fun h => ho (.inl h)) (fun e => ho (.inr (.inr e)))⟩
          have hOs : ∀ b, b < w.heap.size → OO fo4 m4 b → OO fo3 m b := by
            rintro b hb (h | h)
            · exact .inl (hown4 b hb h)
            · subst hfm
              rcases h with h | h
              · exact .inr h
              · exfalso
                rcases List.mem_append.1 h with h | h
                · have h1 := (hm3.2 b h).1
                  rw [setO_size] at h1
                  have := st1.size
                  omega
                · have := (hm1.2 b h).1; omega
          have hrs : (setO w3 l (.loop { r0 with state := st, pending := pd })).heap[l]? = some (.loop { r0 with state := st, pending := pd }) := setO_same hl3
          refine ⟨_, inv_bundle (fo := fo) (fo' := fo4) hf4 hl4 hlo g5.inv hJ2 hrs (fun t y hy => ?_), ?_⟩
          · exact ((hf t y hy).on hlab3 (by rw [hlab]; exact (hfr t y hy).2)).mono hkeep hOs (fun _ _ e => e)
          · refine ⟨?_, ?_, ?_, hsize, fun b hb ho => ?_, fun b hb h5 => ?_⟩
            · show w3.os = w.os
              exact st3.os.trans st1.os
            · show w3.tape = w.tape
              exact st3.tape.trans st1.tape
            · show w3.output = w.output
              exact st3.output.trans st1.output
            · exact hsame b hb (fun h => ho ((hown b).2 (.inr h))) (fun e => ho ((hown b).2 (.inl e)))
            · rw [one_own, blk_bval g5.inv.dom] at h5
              rcases h5 with rfl | h5
              · exact (hown _).2 (.inl rfl)
              · exact (hown b).2 (.inr (hown4 b hb h5))
        have hend : ∀ jump : Option Code, (Instr.endRound l jump).run P w3 = .ok (.bool jump.isNone) (setO w3 l (.loop { r0 with state := if jump.isNone then .ready else .done, pending := jump })) := by
          intro jump
          simp [Instr.endRound, Instr.getLoop, Sem.run_bind, run_getO hrec3 (by simp), run_setO hrec3 (by simp)]
        have hstop : ∀ (jump : Code) (x : AX), jumpAX (some jump) x → (s3.pick [] (keys L0)).on (keys (s3.pick [] (keys L0)).L) = true ∧ labs (s3.pick [] (keys L0)).L = labs L0 ∧ K x ⟨fr, (s3.pick [] (keys L0)).L⟩ →
            ∃ v w', (Instr.endRound l (some jump)).run P w3 = .ok v w' ∧ CPost fo m1 w (YR (loopEnv r0 l fr J') (loopEnv r0 l fr JB)) (.returned v) w' := by
          rintro jump x hj ⟨q1, q2, q3⟩
          obtain ⟨m5, i5, s5⟩ := fin .done (some jump) JB q1 q2 (hJB _ _ _ hj q2 q3)
          exact ⟨_, _, hend _, m5, .ret (.d (.v (.bool false))), _, .inr ⟨rfl, rfl⟩, .d _ _ (.v _ rfl), i5, s5⟩
        cases e3 with
        | normal =>
          cases x3 <;> simp only [Exits] at hx3
          obtain ⟨q1, q2, q3⟩ := hq3
          obtain ⟨n1, n2⟩ := hn' q3
          obtain ⟨m5, i5, s5⟩ := fin .ready none J' q1 (by rw [q2]; exact n2) (by rw [q2]; exact n1)
          exact ⟨_, _, hend none, m5, .ret (.d (.v (.bool true))), _, .inl ⟨rfl, rfl⟩, .d _ _ (.v _ rfl), i5, s5⟩
        | ret =>
          cases x3 <;> simp only [Exits] at hx3
          exact hstop .ret .ret trivial hq3
        | exit i =>
          cases x3 <;> simp only [Exits] at hx3
          subst hx3
          exact hstop (.exit i) (.exit i) rfl hq3
        | goto i =>
          cases x3 <;> simp only [Exits] at hx3
          subst hx3
          exact hstop (.goto i) (.goto i) rfl hq3
        | panic ch => cases x3 <;> simp only [Exits] at hx3; exact hq3.elim
        | outgrown => cases x3 <;> simp only [Exits] at hx3
    | exit i => cases x1 <;> simp only [Exits] at hx1; exact hq1.elim
    | goto i => cases x1 <;> simp only [Exits] at hx1; exact hq1.elim
    | ret => cases x1 <;> simp only [Exits] at hx1; exact hq1.elim
    | panic ch => cases x1 <;> simp only [Exits] at hx1; exact hq1.elim
    | outgrown => cases x1 <;> simp only [Exits] at hx1
end
end Go.Ab

/-
  The engine, part Rh: the statement 'for .. range f', f a function.
-/
set_option linter.unusedSimpArgs false
set_option linter.unusedVariables false
namespace Go.Ab

section
variable {P : Program} {n : Nat} {s : St} {Q : AX → St → Prop}

/-- What is kept of a slot's value while rounds run: places of boxes, data. -/
def newO (w : World) (o : Obj) : World := { w with heap := w.heap.push o }
theorem newO_size (w : World) (o : Obj) : (newO w o).heap.size = w.heap.size + 1 := by
  show (w.heap.push o).size = _
  rw [Array.size_push]
theorem newO_same (w : World) (o : Obj) : (newO w o).heap[w.heap.size]? = some o := by
  show (w.heap.push o)[w.heap.size]? = _
  rw [Array.getElem?_push, if_pos rfl]
theorem newO_lt {w : World} {o : Obj} {b : Nat} (h : b < w.heap.size) : (newO w o).heap[b]? = w.heap[b]? := by
  show (w.heap.push o)[b]? = _
  rw [Array.getElem?_push, if_neg (by omega)]
theorem run_newO (w : World) (o : Obj) : (newObj o).run P w = .ok w.heap.size (newO w o) := rfl

theorem perm_keys {L L' : Heap} (h : L.Perm L') : (keys L).Perm (keys L') := h.map _

/-- The rest of the resources, kept aside. -/
theorem AWP.rangeF0 {g : Operand} {ps : Array Tmp} {assign body : Code} {f : FuncId} {caps : List V} {xs : List (List V)}
    (J : Nat → Heap → Prop) (K : AX → St → Prop) (L0 : Heap) (fr : List (Nat × V)) (hL0 : s.L = L0) (hsfr : ∀ p ∈ fr, p ∈ s.fr)
    (hg : s.ev g = .clo (.func f) [] caps) (he : enters P f = true) (hcaps : V.ons [] caps = true) (hit : Iter P f caps [] xs)
    (hrf : hasRF assign = false ∧ hasRF body = false) (hps : ∀ (i : Nat) (x : List V), xs[i]? = some x → x.length = ps.size ∧ V.ons [] x = true) (hpn : ∀ p ∈ ps.toList, p < n)
    (hnd : (keys L0).Nodup) (hfr : ∀ t y, (t, y) ∈ fr → V.on ((labs L0).map (·.1)) y = true)
    (hJ0 : J 0 L0) (hJl : ∀ i L, J i L → labs L = labs L0)
    (round : ∀ (i : Nat) (x : List V) L, xs[i]? = some x → J i L → ∃ L' Hn, (Hn → J (i + 1) L' ∧ labs L' = labs L0) ∧ codeK P n assign ⟨putPs (ps.toList.zip x) fr, L⟩ (AX.then (fun s2 => codeK P n body s2 (RoundQ (keys L0) L0 L' Hn fr K)) (fun _ _ => False)))
    (last : ∀ L, J xs.length L → Q .normal ⟨fr, L⟩) (hK : ∀ x L, K x ⟨fr, L⟩ → Q x ⟨fr, L⟩) : AWP P n (.rangeFunc g ps assign body) s Q := by
  subst hL0
  intro fo m a w hr gG
  have hro : fo.r = none := hr rfl
  refine wpIn_rangeFunc (F := wr fo.r) (n := 0) (P := P) (fun fn _ => ?_)
  let r := w.heap.size
  let wa := newO w (.deferred (some []))
  let r0 : Loop := { state := .ready, pending := none, fn, tmps := a.tmps, params := ps, assign, body, defers := r }
  let l := wa.heap.size
  let w1 := newO wa (.loop r0)
  have hl : l = w.heap.size + 1 := newO_size _ _
  have hw1 : w1.heap.size = w.heap.size + 2 := by rw [newO_size]; omega
  have hi := gG.inv
  have hold : ∀ b, b < w.heap.size → w1.heap[b]? = w.heap[b]? := fun b hb => by
    rw [newO_lt (by rw [newO_size]; omega), newO_lt hb]
  have hrl : w1.heap[r]? = some (.deferred (some [])) := by
    rw [newO_lt (by rw [newO_size]; exact Nat.lt_succ_self _)]; exact newO_same _ _
  have hll : w1.heap[l]? = some (.loop r0) := newO_same _ _
  -- the callee
  have hev := eval_rel gG g
  rw [hg] at hev
  obtain ⟨fa, ca, ev, s1, s2, g1, g2⟩ := clo_inv hev
  have hfa : fa = #[] := by simpa using s1
  subst hfa
  refine ⟨l, [⟨.collected r, #[]⟩], w1, ⟨.fn (.func f) ca, #[.func (.yield l) #[] #[]]⟩, w1, f, #[.func (.yield l) #[] #[]] ++ ca, w1, ?_, ?_, fun _ _ => trivial, ?_, fun h => by simp [wr, Fence.wide] at h, ?_⟩
  · show (Instr.enterLoop fn a.tmps ps assign body (wr fo.r).round).run P w = _
    rw [show (wr fo.r).round = none from hro]
    simp [Instr.enterLoop, Sem.run_bind, run_newO, r, l, w1, wa, r0]
    exact ⟨(newO_size _ _).symm, rfl⟩
  · have hcv : ∀ v, a.eval (.const v) = v := fun _ => rfl
    simp [resolve, rangeCall, ev, hcv, Deferred.ofValue]
  · simpa [invoke] using run_callFunc (P := P) he (#[.func (.yield l) #[] #[]] ++ ca) w1
  -- all that is owned, as one bundle
  let fo1 : FO := ⟨fun b => fo.f b ∨ b = r, [], none⟩
  let fo2 : FO := ⟨fun b => (fo.f b ∨ b = r) ∨ b = l, [], none⟩
  have hown : ∀ b, own m b → b < w.heap.size := fun b ⟨h, x, hx, hb⟩ => hi.lt hx hb
  have hO2 : ∀ b, b < w.heap.size → OO fo2 m b → OO fo m b := by
    rintro b hb (h | ((h | h) | h))
    · exact .inl h
    · exact .inr h
    · omega
    · omega
  have hk1 : Keep w (OO fo m) w1 := ⟨by omega, fun b hb _ => hold b hb⟩
  have hi2 : Inv fo2 m s.L w1 := by
    refine ⟨hi.nodup, hi.dom, hi.apart, ?_, ?_, ?_⟩
    · rintro h x b hx hb ((h' | h') | h')
      · exact hi.others h x b hx hb h'
      · have := hi.lt hx hb; omega
      · have := hi.lt hx hb; omega
    · rintro b ((h' | h') | h')
      · have := hi.folt b h'; omega
      · omega
      · omega
    · intro h q hq
      obtain ⟨x, hx, hh⟩ := hi.holds h q hq
      exact ⟨x, hx, hh.mono (fun b hb => hold b (hi.lt hx hb)) hk1 hO2 (fun _ _ e => e)⟩
  let B := loopEnv r0 l fr (fun st pd L => st = .done ∧ ∃ c x, pd = some c ∧ jumpAX pd x ∧ K x ⟨fr, L⟩)
  let A : Nat → Env := fun i => loopEnv r0 l fr (fun st pd L => (st = .ready ∧ pd = none ∧ labs L = labs s.L) ∧ J i L)
  have hfrel : ∀ t y, (t, y) ∈ fr → RelV w1 (OO fo2 m) m (r0.tmps.getD t undef) y := fun t y hy => (gG.fr t y (hsfr _ hy)).2.mono hk1 hO2 (fun _ _ e => e)
  have hlo1 : ¬ fo1.f l := by
    rintro (h | h)
    · have := hi.folt _ h; omega
    · omega
  have hb1 : Inv fo1 (one (bval l s.L m)) [(5003, .env (A 0))] w1 :=
    inv_bundle (fo := fo1) (fo' := fo2) (fun b h => .inl h) (.inr rfl) hlo1 hi2 ⟨⟨rfl, rfl, rfl⟩, hJ0⟩ hll hfrel
  have hcall := hit l A B (fun i x hx => ?_)
  · have hargs : RelVs w1 (OO fo1 (one (bval l s.L m))) (one (bval l s.L m)) (#[.func (.yield l) #[] #[]] ++ ca) (yv l :: caps) := by
      have h1 : RelVs w1 (OO fo1 (one (bval l s.L m))) (one (bval l s.L m)) #[.func (.yield l) #[] #[]] [yv l] := by
        refine ⟨rfl, fun j x y hx hy => ?_⟩
        match j with
        | 0 =>
          simp only [List.getElem?_cons_zero, Option.some.injEq] at hy
          have hx' : x = .func (.yield l) #[] #[] := by simpa using hx.symm
          subst hy; subst hx'
          exact .d _ _ (.v _ rfl)
        | j + 1 => simp at hy
      refine h1.append (ys' := caps) ⟨s2, fun j x y hx hy => ?_⟩
      have := (g2 j x y hx hy).on (ks := []) (m' := one (bval l s.L m)) (by simp) (ons_mem hcaps y (List.mem_of_getElem? hy))
      refine this.mono hk1 (fun b hb hO => ?_) (fun _ _ e => e)
      rcases hO with h | h | h
      · rcases (blk_bval hi2.dom b).1 ((one_own _ b).1 h) with h | h
        · omega
        · exact .inl h
      · exact .inr h
      · omega
    have hc := hcall fo1 (one (bval l s.L m)) w1 _ (by simpa using hb1) hargs
    refine wr_calls (hc.mono ?_)
    rintro e w3 ⟨m', rr, L', ⟨⟨y, rfl⟩, hL'⟩, hends, hi3, st3⟩
    have hro1 : ¬ own (one (bval l s.L m)) r := by
      rw [one_own, blk_bval hi2.dom]
      rintro (h | h)
      · omega
      · have := hown _ h; omega
    have hr3 : w3.heap[r]? = some (.deferred (some [])) := by rw [st3.block r (by omega) hro1]; exact hrl
    have hown1 : ∀ b, own (one (bval l s.L m)) b → b = l ∨ own m b := fun b h => (blk_bval hi2.dom b).1 ((one_own _ b).1 h)
    -- behind the loop
    have fin : ∀ st pd L m2, st ≠ .busy → w3.heap[l]? = some (.loop { r0 with state := st, pending := pd }) → Inv ⟨fun b => fo1.f b ∨ b = l, [], none⟩ m2 L w3 → (∀ t y, (t, y) ∈ fr → RelV w3 (OO ⟨fun b => fo1.f b ∨ b = l, [], none⟩ m2) m2 (r0.tmps.getD t undef) y) → (∀ b, own m' b ↔ b = l ∨ own m2 b) →
        ∃ w4, (Instr.endLoop l).run P w3 = .ok pd w4 ∧ G (fo.mark [r]) n m2 ⟨fr, L⟩ { a with defers := [⟨.collected r, #[]⟩] ++ a.defers } w4 ∧ Step w (own m) w4 (own m2) ∧ Marks w w4 [r] := by
      intro st pd L m2 hst hrec hi4 hf4 ho4
      have hl3 : l < w3.heap.size := (Array.getElem?_eq_some_iff.1 hrec).1
      refine ⟨setO w3 l (.loop { r0 with state := .exhausted, pending := pd }), ?_, ?_, ?_, ?_⟩
      · simp [Instr.endLoop, Instr.getLoop, Sem.run_bind, run_getO hrec (by simp), run_setO hrec (by simp), hst]
      · have g4 : G (⟨fun b => fo1.f b ∨ b = l, ⟨.collected r, #[]⟩ :: fo.D, fo.r⟩ : FO) n m2 ⟨fr, L⟩ { a with defers := [⟨.collected r, #[]⟩] ++ a.defers } w3 :=
          ⟨gG.size, fun t y hy => ⟨(gG.fr t y (hsfr _ hy)).1, hf4 t y hy⟩, ⟨hi4.nodup, hi4.dom, hi4.apart, hi4.others, hi4.folt, hi4.holds⟩, by simp [gG.defers]⟩
        have g5 := g4.others (w' := setO w3 l (.loop { r0 with state := .exhausted, pending := pd })) (by rw [setO_size]; exact Nat.le_refl _) (fun b _ hb => setO_ne (fun e => hb (.inr e)))
        have hsub : ∀ b, (fo.mark [r]).f b → (fun b => fo1.f b ∨ b = l) b := by
          rintro b (h | h)
          · exact .inl (.inl h)
          · exact .inl (.inr (by simpa using h))
        refine ⟨g5.size, fun t y hy => ⟨(g5.fr t y hy).1, (g5.fr t y hy).2.mono (Keep.refl _ _) (fun b _ hb => hb.imp id (hsub b)) (fun _ _ e => e)⟩, g5.inv.less hsub, ?_⟩
        simp [FO.mark, gG.defers]
      · refine ⟨?_, ?_, ?_, ?_, fun b hb ho => ?_, fun b hb ho => ?_⟩
        · show w3.os = w.os
          exact st3.os
        · show w3.tape = w.tape
          exact st3.tape
        · show w3.output = w.output
          exact st3.output
        · rw [setO_size]; have := st3.size; omega
        · rw [setO_ne (by omega), st3.block b (by omega) (fun h => (hown1 b h).elim (fun h => by omega) ho)]
          exact hold b hb
        · have h1 := st3.owned b (by omega) ((ho4 b).2 (.inr ho))
          rcases hown1 b h1 with h | h
          · omega
          · exact h
      · refine ⟨by simp, fun b hb => ?_⟩
        obtain rfl : b = r := by simpa using hb
        exact ⟨Nat.le_refl _, by rw [setO_ne (by omega)]; exact hr3⟩
    cases e with
    | returned v =>
      rcases hL' with rfl | rfl
      · obtain ⟨st, pd, L, m2, ⟨⟨rfl, rfl, hlab⟩, hJ⟩, hrec, hi4, hf4, ho4, _⟩ := inv_open hi3 [] none
        obtain ⟨w4, h1, h2, h3, h4⟩ := fin _ _ L m2 (by simp) hrec hi4 hf4 ho4
        exact ⟨none, w4, h1, [r], m2, .normal, _, h4, last L hJ, h2, trivial, h3⟩
      · obtain ⟨st, pd, L, m2, ⟨rfl, c, x, rfl, hj, hKx⟩, hrec, hi4, hf4, ho4, _⟩ := inv_open hi3 [] none
        obtain ⟨w4, h1, h2, h3, h4⟩ := fin _ _ L m2 (by simp) hrec hi4 hf4 ho4
        refine ⟨some c, w4, h1, ?_⟩
        have hq := hK x L hKx
        show Code.wpIn (wr fo.r) 0 P c _ _ w4
        cases c <;> cases x <;> simp only [jumpAX] at hj
        all_goals first
          | exact wpIn_ret (show Post fo n m w Q .ret _ _ from ⟨[r], m2, _, _, h4, hq, h2, trivial, h3⟩)
          | (subst hj; exact wpIn_exit (show Post fo n m w Q (.exit _) _ _ from ⟨[r], m2, _, _, h4, hq, h2, rfl, h3⟩))
          | (subst hj; exact wpIn_goto (show Post fo n m w Q (.goto _) _ _ from ⟨[r], m2, _, _, h4, hq, h2, rfl, h3⟩))
    | panicked ch => simp only [Ends] at hends
    | outgrown => simp only [Ends] at hends
  · obtain ⟨hx1, hx2⟩ := hps i x hx
    refine yield_of_body (r0 := r0) (l := l) (fr := fr) (L0 := s.L) (K := K) hrf gG.size hx1 hpn hx2 (fun t y hy => ⟨(gG.fr t y (hsfr _ hy)).1, hfr t y hy⟩) (fun st pd L h => h.1) ?_ hnd ?_
    · rintro st pd L ⟨⟨rfl, rfl, hlab⟩, hj⟩
      obtain ⟨L', Hn, h1, h2⟩ := round i x L hx hj
      exact ⟨L', Hn, fun h => ⟨⟨⟨rfl, rfl, (h1 h).2⟩, (h1 h).1⟩, (h1 h).2⟩, h2⟩
    · intro pd x' L hj hlab hKx
      cases pd with
      | none => simp [jumpAX] at hj
      | some c => exact ⟨rfl, c, x', rfl, hj, hKx⟩
end
end Go.Ab

/-
  The engine, part Ri: ranges over functions, as one goes through a list.
-/
set_option linter.unusedSimpArgs false
set_option linter.unusedVariables false
namespace Go.Ab

section
variable {P : Program} {n : Nat} {s : St} {Q : AX → St → Prop}

/-- A range over a function that goes through l: ts are the slots that are kept; R pre are the resources that have changed behind the rounds of pre; H pre is what else is known there. -/
theorem AWP.rangeL {α : Type} {g : Operand} {ps : Array Tmp} {assign body : Code} {f : FuncId} {caps : List V} {ks : List KI} (ts : List Nat) (l : List α) (e : α → List V) (R : List α → List (Nat × Res)) (H : List α → Prop)
    (hit : Iter P f caps [] (l.map e)) (hg : s.ev g = .clo (.func f) [] caps) (he : enters P f = true) (hcaps : V.ons [] caps = true)
    (hrf : hasRF assign = false ∧ hasRF body = false) (hps : ∀ x ∈ l, (e x).length = ps.size ∧ V.ons [] (e x) = true) (hpn : ps.toList.all (fun p => decide (p < n)) = true) (ht : ts.all (fun t => decide (t < n)) = true)
    (h0 : (keys s.L).Nodup ∧ (s.pick ts (keys s.L)).on (keys (s.pick ts (keys s.L)).L) = true ∧ (ts.all fun t => V.on ((labs s.L).map (·.1)) (getF t s.fr)) = true ∧ s.L = upL s.L (R []) ∧ H [])
    (hlab : ∀ pre, labs (upL s.L (R pre)) = labs s.L)
    (round : ∀ pre x post, l = pre ++ x :: post → H pre → codeK P n assign ⟨putPs (ps.toList.zip (e x)) (ts.map fun t => (t, getF t s.fr)), upL s.L (R pre)⟩
      (kontK P n (fun _ _ => False) [.inv (fun s2 => codeK P n body s2 (kontK P n (RoundQ (keys s.L) s.L (upL s.L (R (pre ++ [x]))) (H (pre ++ [x])) (ts.map fun t => (t, getF t s.fr)) (kontK P n Q ks)) []))]))
    (last : H l → kontK P n Q ks .normal ⟨ts.map fun t => (t, getF t s.fr), upL s.L (R l)⟩) : AWP P n (.rangeFunc g ps assign body) s (kontK P n Q ks) := by
  obtain ⟨h1, h2, h3, h4, h5⟩ := h0
  let s1 : St := ⟨(ts.map fun t => (t, getF t s.fr)) ++ s.fr, s.L⟩
  have hw : Wk n s s1 := by
    intro fo m a w gG
    refine ⟨m, ⟨gG.size, fun t x hx => ?_, gG.inv, gG.defers⟩, Step.refl w _⟩
    rcases List.mem_append.1 hx with hx | hx
    · obtain ⟨t', ht', e⟩ := List.mem_map.1 hx
      simp only [Prod.mk.injEq] at e
      obtain ⟨rfl, rfl⟩ := e
      rw [List.all_eq_true] at ht
      refine ⟨by simpa using ht t' ht', ?_⟩
      exact get_rel gG t'
    · exact gG.fr t x hx
  have getF_app : ∀ t, getF t s1.fr = getF t s.fr := by
    intro t
    show getF t ((ts.map fun t => (t, getF t s.fr)) ++ s.fr) = _
    clear hw h2 h3 ht round last
    induction ts with
    | nil => rfl
    | cons u ts ih =>
      rw [List.map_cons, List.cons_append, getF]
      split
      · rename_i h; rw [h]
      · exact ih
  have hg1 : s1.ev g = .clo (.func f) [] caps := by
    rw [← hg]
    cases g with
    | tmp t => exact getF_app t
    | _ => rfl
  refine AWP.weaken hw ?_
  refine AWP.rangeF0 (J := fun i L => L = upL s.L (R (l.take i)) ∧ H (l.take i)) (K := kontK P n Q ks) s.L (ts.map fun t => (t, getF t s.fr)) rfl (fun p hp => List.mem_append_left _ hp) hg1 he hcaps hit hrf ?_ ?_ h1 ?_ ?_ ?_ ?_ ?_ ?_
  · intro i x hx
    rw [List.getElem?_map] at hx
    obtain ⟨z, hz, rfl⟩ := Option.map_eq_some_iff.1 hx
    exact hps z (List.mem_of_getElem? hz)
  · intro p hp
    rw [List.all_eq_true] at hpn
    simpa using hpn p hp
  · intro t y hy
    obtain ⟨t', ht', e⟩ := List.mem_map.1 hy
    simp only [Prod.mk.injEq] at e
    obtain ⟨rfl, rfl⟩ := e
    rw [List.all_eq_true] at h3
    exact h3 t' ht'
  · exact ⟨h4, h5⟩
  · rintro i L ⟨rfl, _⟩
    exact hlab _
  · rintro i x L hx ⟨rfl, hH⟩
    rw [List.getElem?_map] at hx
    obtain ⟨z, hz, rfl⟩ := Option.map_eq_some_iff.1 hx
    have hlt : i < l.length := (List.getElem?_eq_some_iff.1 hz).1
    have hsp : l = l.take i ++ z :: l.drop (i + 1) := by
      have : l.drop i = z :: l.drop (i + 1) := by
        rw [List.drop_eq_getElem_cons hlt]
        rw [List.getElem?_eq_getElem hlt, Option.some.injEq] at hz
        rw [hz]
      rw [← this, List.take_append_drop]
    have htk : l.take (i + 1) = l.take i ++ [z] := by rw [List.take_add_one, hz]; rfl
    refine ⟨upL s.L (R (l.take i ++ [z])), H (l.take i ++ [z]), fun h => ⟨by rw [htk]; exact ⟨rfl, h⟩, hlab _⟩, ?_⟩
    have hr := round _ z _ hsp hH
    exact hr
  · rintro L ⟨rfl, hH⟩
    rw [List.length_map, List.take_length] at *
    exact last hH
  · intro x L h; exact h
theorem codeK_rangeF {g : Operand} {ps : List Tmp} {assign body : Code} : codeK P n (.rangeFunc g ps.toArray assign body) s Q = AWP P n (.rangeFunc g ps.toArray assign body) s Q := by simp [codeK]
attribute [simp] yv codeK_rangeF RoundQ putPs labs
end
end Go.Ab

/-
  The engine, part Sc: addresses, held against each other and cast.
-/
set_option linter.unusedSimpArgs false
set_option linter.unusedVariables false
namespace Go.Ab

section
variable {P : Program} {n : Nat} {s : St} {Q : AX → St → Prop} {L : Heap}

theorem OpT.ptrNil {o : Oper} {ρa : Operand → V} {t e ty : TypeId} {x y : Operand} (hop : o.op = .binOp .eql t x y ty) (ht : tyPtr P t = some e) (hx : ρa x = .d (.v (.pointer none))) (hy : ρa y = .d (.v (.pointer none))) : OpT P o ρa L (.d (.v (.bool true))) := by
  refine .of_Q fun fo m ρ w hi hr => ?_
  have h1 := hr x (by rw [hop]; simp [Op.operands])
  have h2 := hr y (by rw [hop]; simp [Op.operands])
  rw [hx] at h1
  rw [hy] at h2
  have h : ∀ d : Nat, (Op.equalIn (d + 1) t (.pointer none) (.pointer none)).run P w = .ok true w := fun d => by
    simp [Op.equalIn, run_underlying (tyPtr_spec ht)]
  have h9 : (Op.equal t (.pointer none) (.pointer none)).run P w = .ok true w := h 9999
  refine ⟨.bool true, ?_, .d _ _ (.v _ rfl)⟩
  simp [execOp, hop, h1.v_inv, h2.v_inv, eqGuard, binOp, h9]
theorem OpT.ptrBp {o : Oper} {ρa : Operand → V} {t e ty : TypeId} {x y : Operand} {h off : Nat} (hop : o.op = .binOp .eql t x y ty) (ht : tyPtr P t = some e) (hx : ρa x = .bp h off) (hy : ρa y = .d (.v (.pointer none))) : OpT P o ρa L (.d (.v (.bool false))) := by
  refine .of_Q fun fo m ρ w hi hr => ?_
  have h1 := hr x (by rw [hop]; simp [Op.operands])
  have h2 := hr y (by rw [hop]; simp [Op.operands])
  rw [hx] at h1
  rw [hy] at h2
  obtain ⟨b, _, e1⟩ := bp_inv h1
  have h : ∀ d : Nat, (Op.equalIn (d + 1) t (.pointer (some ⟨b, off, none⟩)) (.pointer none)).run P w = .ok false w := fun d => by
    simp [Op.equalIn, run_underlying (tyPtr_spec ht)]
  have h9 : (Op.equal t (.pointer (some ⟨b, off, none⟩)) (.pointer none)).run P w = .ok false w := h 9999
  refine ⟨.bool false, ?_, .d _ _ (.v _ rfl)⟩
  simp [execOp, hop, e1, h2.v_inv, eqGuard, binOp, h9]
theorem OpT.ptrSame {o : Oper} {ρa : Operand → V} {t e ty : TypeId} {x y : Operand} {h off : Nat} {i : TypeInfo} (hop : o.op = .binOp .neq t x y ty) (ht : tyPtr P t = some e) (hi : P.info? e = some i) (hx : ρa x = .bp h off) (hy : ρa y = .bp h off) : OpT P o ρa L (.d (.v (.bool false))) := by
  refine .of_Q fun fo m ρ w _ hr => ?_
  have h1 := hr x (by rw [hop]; simp [Op.operands])
  have h2 := hr y (by rw [hop]; simp [Op.operands])
  rw [hx] at h1
  rw [hy] at h2
  obtain ⟨b, m1, e1⟩ := bp_inv h1
  obtain ⟨b', m2, e2⟩ := bp_inv h2
  have : b = b' := by
    rw [m1] at m2
    simp only [Option.some.injEq, Value.pointer.injEq, Addr.mk.injEq] at m2
    exact m2.1
  subst this
  refine ⟨.bool false, ?_, .d _ _ (.v _ rfl)⟩
  have := Lib.run_neq_ptr_same (P := P) w ⟨b, off, none⟩ (tyPtr_spec ht) hi
  simp [execOp, hop, e1, e2, eqGuard, this]
def tyUns (P : Program) (t : TypeId) : Bool := match P.underlying t with
  | some .unsafePointer => true
  | _ => false
theorem tyUns_spec {t : TypeId} (h : tyUns P t = true) : P.underlying t = some .unsafePointer := by
  unfold tyUns at h
  split at h
  · assumption
  · cases h
theorem box_shape {fo : FO} {m : Nat → Option Value} {w : World} (hi : Inv fo m L w) {h b0 b : Nat} {ty : TypeId} {cs : List V} (hl : L.lookup h = some (.box b0 ty cs)) (hm : m h = some (.pointer (some ⟨b, 0, none⟩))) : w.shape? b = some (ty, cs.length) := by
  obtain ⟨x, hx, bb, _, cur, rfl, hb, hs, _⟩ := hi.holds h _ (lookup_mem hl)
  rw [hm] at hx
  simp only [Option.some.injEq, Value.pointer.injEq, Addr.mk.injEq] at hx
  obtain ⟨rfl, _⟩ := hx
  simp [World.shape?, hb, hs]
theorem OpT.toUns {o : Oper} {ρa : Operand → V} {src dst e ty : TypeId} {x : Operand} {h off b0 : Nat} {cs : List V} {i : TypeInfo} (hop : o.op = .convert src dst x) (hs : tyPtr P src = some e) (hd : tyUns P dst = true) (hi : P.info? e = some i) (hz : i.size ≠ 0)
    (hx : ρa x = .bp h off) (hl : L.lookup h = some (.box b0 ty cs)) (hoff : off < cs.length) : OpT P o ρa L (.bp h off) := by
  refine .of_Q fun fo m ρ w hinv hr => ?_
  have h1 := hr x (by rw [hop]; simp [Op.operands])
  rw [hx] at h1
  obtain ⟨b, m1, e1⟩ := bp_inv h1
  refine ⟨.pointer (some ⟨b, off, none⟩), ?_, .bp h off b m1⟩
  have := Lib.run_to_unsafe (P := P) w ⟨b, off, none⟩ (tyPtr_spec hs) (tyUns_spec hd) hi hz (box_shape hinv hl m1) hoff
  simp [execOp, hop, e1, this]
theorem OpT.ofUns {o : Oper} {ρa : Operand → V} {src dst u ty : TypeId} {x : Operand} {h off b0 : Nat} {cs : List V} {i : TypeInfo} (hop : o.op = .convert src dst x) (hs : tyUns P src = true) (hd : tyPtr P dst = some u) (hi : P.info? u = some i)
    (hx : ρa x = .bp h off) (hl : L.lookup h = some (.box b0 ty cs)) (hlies : liesAt P P.depth ty (cs.length / P.cellsOf ty) off u 1 = true) : OpT P o ρa L (.bp h off) := by
  refine .of_Q fun fo m ρ w hinv hr => ?_
  have h1 := hr x (by rw [hop]; simp [Op.operands])
  rw [hx] at h1
  obtain ⟨b, m1, e1⟩ := bp_inv h1
  refine ⟨.pointer (some ⟨b, off, none⟩), ?_, .bp h off b m1⟩
  have := Lib.run_from_unsafe (P := P) w ⟨b, off, none⟩ (tyUns_spec hs) (tyPtr_spec hd) hi (box_shape hinv hl m1) hlies
  simp [execOp, hop, e1, this]
theorem OpT.noEscape {o : Oper} {c : Call} {ρa : Operand → V} {f : FuncId} {fn : Func} {x : V} (hop : o.op = .call c) (hc : callee ρa c = some (f, [x])) (hf : P.funcs[f]? = some fn) (hname : (fn.name == "runtime.NumGoroutine") = false)
    (hb : fn.body.isNone = true) (hn : Extern.findNext fn = none) (he : Extern.find fn = some Extern.AbiNoEscape.same) : OpT P o ρa L x := by
  refine .of_Q fun fo m ρ w hi hr => ?_
  unfold callee at hc
  split at hc
  · rename_i fop hcal
    split at hc
    · rename_i f' first caps hfo
      simp only [Option.some.injEq, Prod.mk.injEq] at hc
      obtain ⟨rfl, hc⟩ := hc
      have h1 := hr fop (by rw [hop]; simp [Op.operands, Call.operands, hcal])
      rw [hfo] at h1
      obtain ⟨fa, ca, e, s1, s2, g1, g2⟩ := clo_inv h1
      have hrel : RelVs w (OO fo m) m (fa ++ c.args.map ρ ++ ca) [x] := by
        rw [← hc]
        refine (RelVs.append ⟨s1, g1⟩ ?_).append ⟨s2, g2⟩
        exact ⟨by simp, map_rel2 c.args fun z hz => hr z (by rw [hop]; simp [Op.operands, Call.operands, hz])⟩
      obtain ⟨v, hv⟩ : ∃ v, fa ++ c.args.map ρ ++ ca = #[v] := by
        have := hrel.1
        simp only [List.length_singleton] at this
        generalize fa ++ c.args.map ρ ++ ca = xs at *
        exact ⟨xs[0], by apply Array.ext <;> simp [this]; intro i hi; subst hi; rfl⟩
      refine ⟨v, ?_, hrel.2 0 v x (by rw [hv]; rfl) rfl⟩
      have h3 := run_callFunc_extern (P := P) hf hname hb hn he (fa ++ c.args.map ρ ++ ca) w
      rw [hv, Lib.run_noEscape] at h3
      simp only [execOp, hop, resolve, hcal, e, Deferred.ofValue, Sem.run_bind, Sem.run_pure, Result.andThen_ok, invoke]
      rw [hv]
      exact h3
    · cases hc
  · cases hc
mutual
theorem kill_kill (h : Nat) : ∀ x : V, V.kill h (V.kill h x) = V.kill h x
  | .bp i o => by simp only [V.kill]; split <;> simp [V.kill, *]
  | .rv i => by simp only [V.kill]; split <;> simp [V.kill, *]
  | .ep i k x y => by simp only [V.kill]; split <;> simp [V.kill, *]
  | .clo fn f c => by simp only [V.kill, kills_kills h f, kills_kills h c]
  | .agg cs => by simp only [V.kill, kills_kills h cs]
  | .tup cs => by simp only [V.kill, kills_kills h cs]
  | .gd b x => by simp only [V.kill, kill_kill h x]
  | .d x => rfl
  | .rp cs => rfl
  | .kn Q => rfl
  | .any => rfl
theorem kills_kills (h : Nat) : ∀ l : List V, V.kills h (V.kills h l) = V.kills h l
  | [] => rfl
  | x :: l => by simp only [V.kills, kill_kill h x, kills_kills h l]
end

/-- One of the resources that a call leaves is given up. -/
theorem ACalls.rem {f : FuncId} {args : List V} {L1 : Heap} {x : V} (g : Nat) (hx : x.on [] = true) (h : ACalls P f args L (fun r L' => r = .ret x ∧ remL g L' = L1)) : ACalls P f args L (fun r L' => r = .ret x ∧ L' = L1) := by
  intro fo m w xs hi hr
  refine (h fo m w xs hi hr).mono ?_
  rintro e w' ⟨m1, r, L', ⟨rfl, rfl⟩, he, hi', st⟩
  cases e with
  | returned v =>
    simp only [Ends] at he
    have g0 : G fo 0 m1 ⟨[], L'⟩ { tmps := #[], defers := fo.D } w' := ⟨rfl, by simp, hi', rfl⟩
    obtain ⟨m2, g2, st2⟩ := Wk.rem (s := ⟨[], L'⟩) (n := 0) g fo m1 _ w' g0
    refine ⟨m2, .ret x, remL g L', ⟨rfl, rfl⟩, ?_, g2.inv, st.trans st2⟩
    simp only [Ends]
    refine (he.on (ks := []) (m' := m2) (by simp) hx).mono (Keep.refl w' _) (fun b hb ho => ?_) (fun _ _ e => e)
    exact ho.elim (fun h => .inl (st2.owned b hb h)) .inr
  | panicked ch => simp only [Ends] at he
  | outgrown => simp only [Ends] at he

theorem Inv.perm {fo : FO} {m : Nat → Option Value} {L L' : Heap} {w : World} (hp : L.Perm L') (h : Inv fo m L w) : Inv fo m L' w :=
  ⟨(perm_keys hp).nodup_iff.1 h.nodup, fun i x hx => (perm_keys hp).mem_iff.1 (h.dom i x hx), h.apart, h.others, h.folt, fun i r hr => h.holds i r (hp.mem_iff.2 hr)⟩
/-- The order of the resources is of no account. -/
theorem ACalls.perm {f : FuncId} {args : List V} {L L2 L' L2' : Heap} {x : AE} (hp : L.Perm L2) (hp' : L'.Perm L2') (h : ACalls P f args L (fun r K => r = x ∧ K = L')) : ACalls P f args L2 (fun r K => r = x ∧ K = L2') := by
  intro fo m w xs hi hr
  refine (h fo m w xs (hi.perm hp.symm) hr).mono ?_
  rintro e w' ⟨m1, r, K, ⟨rfl, rfl⟩, he, hi', st⟩
  exact ⟨m1, r, L2', ⟨rfl, rfl⟩, he, hi'.perm hp', st⟩

/-- The operation that comes next, by hand. -/
theorem AOps.byT {ops : Array Oper} {o : Oper} {rest : List Oper} {x : V} (h : OpT P o s.ev s.L x) (hg : o.guard = none) (hd : ∀ d, o.dst = some d → d < n) (hr : dstsOk n rest = true)
    (k : ∀ bs, runC P ops rest (s.put o.dst x) bs [] (KK P n ops Q)) : AOps P n ops (o :: rest) s Q := AOps.quietT hg hd h (runC_sound rest _ [] hr k)
end
end Go.Ab
