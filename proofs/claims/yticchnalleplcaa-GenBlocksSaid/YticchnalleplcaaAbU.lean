/-
  The engine, part U: what simp opens; loops.
-/
import Derived.Test.YticchnalleplcaaAbW
set_option linter.unusedSimpArgs false
set_option linter.unusedVariables false
namespace Go.Ab

attribute [simp] runC runD callStep stepQ stepL guardV q2 q1 loadV fieldAddrV fieldV indexAddrV indexV binV unV lenV convV extractV nilCheckV callV pickV_true pickV_false pickV_bb pickV_gb pickV_bg loudG loudM kO killO killOf opSlots unE unO St.fgt makesNew St.rem remL sameTmp sliceV bndV moreV boolEqV maxminV eqAggV gρ gU gval gcon buildV fillV putAt doStore doMake doLit litRows doCut doAppend srcV
  St.put St.get St.ev evConst V.cl V.un V.unc uncs Op.operands Call.operands argFrame keys Heap.upd V.kill V.kills Res.kill St.kill AX.then AX.inBlock KK dstsOk isCall FPost resVs resV tupV boolV intV strV V.on V.ons Res.on St.on
  Value.oneCell' callee CallA CallC CallG cutRow List.lookup getF delF

@[simp] theorem kills_dmap (h : Nat) (l : List D) : V.kills h (l.map V.d) = l.map V.d := kills_d h l
@[simp] theorem map_kills_dd (h : Nat) (ys : List (List D)) : (dd ys).map (V.kills h) = dd ys := kill_dd h ys
@[simp] theorem ons_dmap (ks : List Nat) (l : List D) : V.ons ks (l.map V.d) = true := ons_d ks l
@[simp] theorem all_ons_dd (ks : List Nat) (ys : List (List D)) : (dd ys).all (V.ons ks) = true := on_dd ks ys
@[simp] theorem dd_length (ys : List (List D)) : (dd ys).length = ys.length := by simp [dd]
@[simp] theorem dd_append (xs ys : List (List D)) : dd xs ++ dd ys = dd (xs ++ ys) := by simp [dd]
@[simp] theorem dd_nil : dd [] = [] := rfl
@[simp] theorem dd_get (ys : List (List D)) (i : Nat) : (dd ys)[i]? = ys[i]?.map (·.map V.d) := by simp [dd]
@[simp] theorem dd_take (ys : List (List D)) (i : Nat) : (dd ys).take i = dd (ys.take i) := by simp [dd]
@[simp] theorem dd_drop (ys : List (List D)) (i : Nat) : (dd ys).drop i = dd (ys.drop i) := by simp [dd]
theorem dd_one (x : List D) : [x.map V.d] = dd [x] := rfl
theorem dd_set (ys : List (List D)) (i : Nat) (x : List D) : (dd ys).set i (x.map V.d) = dd (ys.set i x) := by simp [dd, List.map_set]

/-- integers, an element a cell -/
def encI (l : List Int) : List (List D) := l.map fun n => [.v (.int .i64 n)]
@[simp] theorem encI_length (l : List Int) : (encI l).length = l.length := by simp [encI]
@[simp] theorem encI_get (l : List Int) (i : Nat) : (encI l)[i]? = l[i]?.map fun n => [.v (.int .i64 n)] := by simp [encI]
@[simp] theorem encI_append (a b : List Int) : encI a ++ encI b = encI (a ++ b) := by simp [encI]
@[simp] theorem encI_getZ (l : List Int) (i : Nat) : (Option.map (fun n => [D.v (.int .i64 n)]) l[i]?).getD [D.v (.int .i64 0)] = [D.v (.int .i64 (l[i]?.getD 0))] := by cases l[i]? <;> rfl
@[simp] theorem encI_cellAt (l : List Int) (i : Nat) : cellAt (dd (encI l)) i 0 [V.d (D.v (.int .i64 0))] = V.d (D.v (.int .i64 (l[i]?.getD 0))) := by
  unfold cellAt
  rw [dd_get, encI_get]
  cases l[i]? <;> rfl
/-- truths -/
def encB (l : List Bool) : List (List D) := l.map fun b => [.v (.bool b)]
@[simp] theorem encB_length (l : List Bool) : (encB l).length = l.length := by simp [encB]
@[simp] theorem encB_get (l : List Bool) (i : Nat) : (encB l)[i]? = l[i]?.map fun b => [.v (.bool b)] := by simp [encB]
@[simp] theorem encB_append (a b : List Bool) : encB a ++ encB b = encB (a ++ b) := by simp [encB]
@[simp] theorem encB_nil : encB [] = [] := rfl
@[simp] theorem encB_drop (l : List Bool) (i : Nat) : (encB l).drop i = encB (l.drop i) := by simp [encB]
@[simp] theorem encB_take (l : List Bool) (i : Nat) : (encB l).take i = encB (l.take i) := by simp [encB]
@[simp] theorem encB_getZ (l : List Bool) (i : Nat) : (Option.map (fun b => [D.v (.bool b)]) l[i]?).getD [D.v (.bool false)] = [D.v (.bool (l[i]?.getD false))] := by cases l[i]? <;> rfl
@[simp] theorem encB_cellAt (l : List Bool) (i : Nat) : cellAt (dd (encB l)) i 0 [V.d (D.v (.bool false))] = V.d (D.v (.bool (l[i]?.getD false))) := by
  unfold cellAt
  rw [dd_get, encB_get]
  cases l[i]? <;> rfl
@[simp] theorem encB_set (l : List Bool) (k : Nat) (v : Bool) : (dd (encB l)).set k [.d (.v (.bool v))] = dd (encB (l.set k v)) := by
  simp [dd, encB, List.map_set]
@[simp] theorem encB_snoc (l : List Bool) (v : Bool) : dd (encB l) ++ [[.d (.v (.bool v))]] = dd (encB (l ++ [v])) := by
  simp [dd, encB]
@[simp] theorem encB_lens (l : List Bool) : (∀ x ∈ encB l, x.length = 1) ↔ True := by
  simp only [encB, List.mem_map, iff_true]
  rintro x ⟨b, _, rfl⟩
  rfl
@[simp] theorem encB_replicate (N : Nat) (v : Bool) : List.replicate N [V.d (.v (.bool v))] = dd (encB (List.replicate N v)) := by simp [dd, encB]
/-- strings -/
def encS (l : List ByteArray) : List (List D) := l.map fun s => [.v (.string s)]
@[simp] theorem encS_length (l : List ByteArray) : (encS l).length = l.length := by simp [encS]
@[simp] theorem encS_get (l : List ByteArray) (i : Nat) : (encS l)[i]? = l[i]?.map fun b => [.v (.string b)] := by simp [encS]
@[simp] theorem encS_append (a b : List ByteArray) : encS a ++ encS b = encS (a ++ b) := by simp [encS]
@[simp] theorem encS_nil : encS [] = [] := rfl
@[simp] theorem encS_drop (l : List ByteArray) (i : Nat) : (encS l).drop i = encS (l.drop i) := by simp [encS]
@[simp] theorem encS_take (l : List ByteArray) (i : Nat) : (encS l).take i = encS (l.take i) := by simp [encS]
@[simp] theorem encS_getZ (l : List ByteArray) (i : Nat) : (Option.map (fun b => [D.v (.string b)]) l[i]?).getD [D.v (.string ⟨#[]⟩)] = [D.v (.string (l[i]?.getD ⟨#[]⟩))] := by cases l[i]? <;> rfl
@[simp] theorem encS_cellAt (l : List ByteArray) (i : Nat) : cellAt (dd (encS l)) i 0 [V.d (D.v (.string ⟨#[]⟩))] = V.d (D.v (.string (l[i]?.getD ⟨#[]⟩))) := by
  unfold cellAt
  rw [dd_get, encS_get]
  cases l[i]? <;> rfl
@[simp] theorem encS_set (l : List ByteArray) (k : Nat) (v : ByteArray) : (dd (encS l)).set k [.d (.v (.string v))] = dd (encS (l.set k v)) := by
  simp [dd, encS, List.map_set]
@[simp] theorem encS_snoc (l : List ByteArray) (v : ByteArray) : dd (encS l) ++ [[.d (.v (.string v))]] = dd (encS (l ++ [v])) := by
  simp [dd, encS]
@[simp] theorem encS_lens (l : List ByteArray) : (∀ x ∈ encS l, x.length = 1) ↔ True := by
  simp [encS]
/-- slices -/
def encSl {α : Type} (g : List α → List (List D)) (l : List (List α)) : List (List D) := l.map fun y => [.sl (g y)]
section
variable {α : Type} {g : List α → List (List D)}
@[simp] theorem encSl_length (l : List (List α)) : (encSl g l).length = l.length := by simp [encSl]
@[simp] theorem encSl_get (l : List (List α)) (i : Nat) : (encSl g l)[i]? = l[i]?.map fun y => [.sl (g y)] := by simp [encSl]
@[simp] theorem encSl_append (a b : List (List α)) : encSl g a ++ encSl g b = encSl g (a ++ b) := by simp [encSl]
@[simp] theorem encSl_nil : encSl g [] = [] := rfl
@[simp] theorem encSl_drop (l : List (List α)) (i : Nat) : (encSl g l).drop i = encSl g (l.drop i) := by simp [encSl]
@[simp] theorem encSl_take (l : List (List α)) (i : Nat) : (encSl g l).take i = encSl g (l.take i) := by simp [encSl]
@[simp] theorem encSl_getZ (l : List (List α)) (i : Nat) (hg : g [] = []) : (Option.map (fun y => [D.sl (g y)]) l[i]?).getD [D.sl []] = [D.sl (g (l[i]?.getD []))] := by cases l[i]? <;> simp [hg]
@[simp] theorem encSl_cellAt (l : List (List α)) (i : Nat) (hg : g [] = []) : cellAt (dd (encSl g l)) i 0 [V.d (D.sl [])] = V.d (D.sl (g (l[i]?.getD []))) := by
  unfold cellAt
  rw [dd_get, encSl_get]
  cases l[i]? <;> simp [hg]
@[simp] theorem encSl_snoc (l : List (List α)) (v : List α) : dd (encSl g l) ++ [[.d (.sl (g v))]] = dd (encSl g (l ++ [v])) := by
  simp [dd, encSl]
@[simp] theorem encSl_lens (l : List (List α)) : (∀ x ∈ encSl g l, x.length = 1) ↔ True := by
  simp [encSl]
end
@[simp] theorem encI_nil : encI [] = [] := rfl
@[simp] theorem encI_drop (l : List Int) (i : Nat) : (encI l).drop i = encI (l.drop i) := by simp [encI]
@[simp] theorem encI_take (l : List Int) (i : Nat) : (encI l).take i = encI (l.take i) := by simp [encI]

theorem bytes_toList (a b : ByteArray) : a.toList = b.toList ↔ a = b := by
  constructor
  · intro h
    rw [ByteArray.toList_eq, ByteArray.toList_eq] at h
    cases a; cases b
    simpa using h
  · intro h; rw [h]
theorem bytes_beq (a b : ByteArray) : (a.toList == b.toList) = decide (a = b) := by
  rw [Bool.eq_iff_iff]
  simp [bytes_toList]

/-- A loop, whose head is met in a state of which less is said. -/
theorem AWP.loopI {P : Program} {n : Nat} {c : Code} {s : St} {Q : AX → St → Prop} (I : Nat → St → Prop) (h0 : ∃ k s0, Wk n s s0 ∧ I k s0)
    (round : ∀ k s, I k s → codeK P n c s (AX.then (fun s' => ∃ k', k' < k ∧ ∃ s'', Wk n s' s'' ∧ I k' s'') Q)) : AWP P n (.loop c) s Q := by
  obtain ⟨k, s0, hw, hi⟩ := h0
  exact AWP.weaken hw (AWP.loop I ⟨k, hi⟩ (fun k s h => codeK_sound _ _ _ (round k s h)))

theorem inR_i64 {n : Int} : inR .i64 n ↔ -9223372036854775808 ≤ n ∧ n ≤ 9223372036854775807 := by
  unfold inR IntKind.min IntKind.max
  simp [IntKind.bits, IntKind.signed]

end Go.Ab
