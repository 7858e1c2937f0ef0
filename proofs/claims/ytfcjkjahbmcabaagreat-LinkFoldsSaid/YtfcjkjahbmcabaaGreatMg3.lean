/-
  The texts Z V T Gs Q Lp Wr Fam Pn Rf Rg Rh Ri Sc Bfits Bnum Nest Bnest Bright Bfits2 Bfits3 Bfits4 Bfits5 Bright2 Df Dg Dh Di Rj Nl Bclone Bups Nx Bkids Bcopy Nest2 Bleave Bmove Battr Battr2 Nest3 Bref20 Bmix, one behind the other.
-/
import Derived.Test.YtfcjkjahbmcabaaGreatMg2
import Derived.JoinedCond
import Derived.Deep.CondSized
import Derived.Test.YtfcjkjahbmcabaaGreatProg
import Derived.KernelRfl
import Derived.RangeFuncIn
import Derived.Lib.Builder
import Derived.Laws.Externs
import Derived.RecoverIn
import Derived.WalkSpells
set_option linter.unusedSimpArgs false
set_option linter.unusedVariables false
namespace Go.Ab
open Go.ChangeShapes Go.WideShapes Go.RowKit
def argV (P : Program) (t : TypeId) (ys : List D) : V :=
  match P.underlying t with
  | some (.struct _) | some (.array _ _) => .agg (ys.map .d)
  | _ => match ys with
    | [y] => .d y
    | _ => .any
section
variable {H : Type} {enc : TypeId × Value → H} {P : Program} {w : World}
theorem argV_rel {base} {t} {v} {ys} (hc : RelC w v.cells.toList ys) (hok : Value.okWide P w .any base t v) : RelV w (OO (⟨fun _ => False, [], none, false⟩ : FO) noneM) noneM v (argV P t ys) := by
  have up : ∀ x y, RelD w (fun _ => False) x y → RelD w (OO (⟨fun _ => False, [], none, false⟩ : FO) noneM) x y := fun x y h =>
    h.mono  (Keep.refl _ _) (fun b _ ho => by rcases ho with ho | ho; exact absurd ho (noneM_own b); exact ho)
  have ag : ∀ cs , v = .agg cs → RelV w (OO (⟨fun _ => False, [], none, false⟩ : FO) noneM) noneM v (.agg (ys.map .d)) := by
    rintro cs rfl
    have hcs : (Value.agg cs).cells.toList = cs.toList := rfl
    rw [hcs] at hc
    refine .agg cs _ (by simpa using hc.1) (fun j x hx => ?_) (fun j x y hx hy => ?_)
    · have hj : j < ys.length := by rw [← hc.1]; grind
      exact (hc.2 j x _ (by grind) (List.getElem?_eq_getElem hj)).1
    · simp  [List.getElem?_map, Option.map_eq_some_iff] at hy
      obtain ⟨y', hy', rfl⟩ := hy
      exact .d _ _ (up _ _ (hc.2 j x _ (by grind) hy').2)
  unfold argV
  split
  · grind [Value.okWide]
  · grind [Value.okWide]
  · split
    · rename_i y
      have hne : ∀ cs, v ≠ .agg cs := by
        rintro cs rfl
        simp_all [Value.okWide, Cell.okWide, Cell.ok]
      have hcells : v.cells.toList = [v] := by
        cases v <;> first | rfl | grind
      rw [hcells] at hc
      exact .d _ _ (up _ _ (hc.2 0 v y rfl rfl).2)
    · exact .any _
theorem open_all (hf : fineB P = true) {base} : ∀ (ts : List TypeId) vs ds ps, (∀ t ∈ ts, t < P.types.size) →
    DataW.TrodAll enc P w 0 (fun _ => true) true ts vs ds ps → (∀ n ∈ DataW.weightsEach P ts ds, n ≤ reachBytes) →
    (∀ (j : Nat) t v, ts[j]? = some t → vs[j]? = some v → Value.okWide P w .any base t v) →
    ∃ yss : List (List D), yss.length = ts.length ∧ (∀ (i : Nat) t ys, ts[i]? = some t → yss[i]? = some ys → HasT P t ys) ∧ vs.length = ts.length ∧ ds.length = ts.length ∧ bDss yss ≤ bulkAll ds ∧
      ∀ (j : Nat) x y, vs[j]? = some x → ((ts.zip yss).map fun p => argV P p.1 p.2)[j]? = some y → RelV w (OO (⟨fun _ => False, [], none, false⟩ : FO) noneM) noneM x y
  | [], [], [], _, _, _, _, _ => ⟨[], rfl, by simp, rfl, rfl, by simp [bDss], by simp⟩
  | t :: ts, v :: vs, d :: ds, ps, ht, h, hw, hok => by
    obtain ⟨p, q, h0, hr, rfl⟩ := h
    simp  [DataW.weightsEach, List.mem_append] at hw
    obtain ⟨yss, a1, a2, a3, a4, a6, a5⟩ := open_all hf ts vs ds q (fun t h => ht t (List.mem_cons_of_mem _ h)) hr (fun n hn => hw n (.inr hn)) (fun j t v h1 h2 => hok (j + 1) t v (by grind) (by grind))
    obtain ⟨fuel, h0⟩ := h0
    obtain ⟨ys, b1, b2, b3⟩ := open_trod hf fuel t _ d p (ht t List.mem_cons_self) h0 (fun n hn => hw n (.inl hn))
    refine ⟨ys :: yss, by grind, fun i t' ys' hi hy => ?_, by grind, by grind, by grind [bDss, bulkAll], fun j x y hx hy => ?_⟩
    · grind
    · cases j with
      | zero => simp at hx hy; subst hx; subst hy; exact argV_rel b1 (hok 0 t v rfl rfl)
      | succ j => exact a5 j x y (by grind) (by grind)
  | [], [], _ :: _, _, _, h, _, _ => h.elim
  | [], _ :: _, _, _, _, h, _, _ => h.elim
  | _ :: _, [], _, _, _, h, _, _ => h.elim
  | _ :: _, _ :: _, [], _, _, h, _, _ => h.elim
theorem trod_all_stays (hl : laidOutB P = true) {W W'} (hb : Below W.heap.size W W') : ∀ ts vs ds ps, (∀ t ∈ ts, P.readableRec t = true ∧ t < P.types.size) →
    DataW.TrodAll enc P W 0 (fun _ => true) true ts vs ds ps → (∀ x ∈ ps, x.block < W.heap.size) → DataW.TrodAll enc P W' 0 (fun b => decide (b < W.heap.size)) true ts vs ds ps
  | [], [], [], _, _, h, _ => h
  | t :: ts, v :: vs, d :: ds, ps, ht, h, hlt => by
    obtain ⟨p, q, h0, hr, rfl⟩ := h
    exact ⟨p, q, Below.trod hl (ht t List.mem_cons_self).1 (ht t List.mem_cons_self).2 h0 hb (fun x hx => hlt x (List.mem_append_left _ hx)),
      trod_all_stays hl hb ts vs ds q (fun t h => ht t (List.mem_cons_of_mem _ h)) hr (fun x hx => hlt x (List.mem_append_right _ hx)), rfl⟩
  | [], [], _ :: _, _, _, h, _ => h.elim
  | [], _ :: _, _, _, _, h, _ => h.elim
  | _ :: _, [], _, _, _, h, _ => h.elim
  | _ :: _, _ :: _, [], _, _, h, _ => h.elim
end
theorem Globs.nil (h : globs = []) (w : World) (O : Nat → Prop) : Globs w O := by intro p hp; rw [h] at hp; cases hp
theorem row_lifted (hgl : globs = []) {H : Type} {enc : TypeId × Value → H} {C : Checked} {os : Os} {f : FuncId} {fn : Func} {s : ChangeSpec} {a : Assume} {conds : List PathCond} {fresh handsOn : Bool} (tb : TypeId)
    (own : ownKnob C.prog.godebug = none) (started : os.Started) (noInit : C.prog.inits.idxOf? f = none) (hfn : C.prog.funcs[f]? = some fn)
    (witness : ∃ (w : World) (tape : Tape) (i : Input), w.os = os ∧ (w.forCall tape i).Shaped C.prog ∧ i.vars = [] ∧ Input.okWide C.prog (w.forCall tape i) .any w.heap.size f i ∧
      s.pre6 enc C.prog fn conds false (w.forCall tape i).memory i.args ∧ a.holds C.prog (lone (Frame.enter C.prog f i.args .normal) [] (w.forCall tape i)))
    (hfine : fineB C.prog = true) (laid : laidOutB C.prog = true)
    (hps : fn.params.toList.all (fun t => C.prog.readableRec t && decide (t < C.prog.types.size)) = true)
    (hres : fn.resultTypes = #[tb]) (htb : C.prog.underlying tb = some .bool) (hv : s.vars = [])
    (hs : ∀ ds : List (DataW H), ds.length = fn.params.size → s.fn H ds = { results := [.lit (.bool true)], args := ds })
    (walk : ∀ yss : List (List D), yss.length = fn.params.size → (∀ (i : Nat) t ys, fn.params[i]? = some t → yss[i]? = some ys → HasT C.prog t ys) →
      ACalls C.prog f ((fn.params.toList.zip yss).map fun p => argV C.prog p.1 p.2) [] (fun r _ => r = .ret (.d (.v (.bool true))))) :
    ReturnsInHanded a C os f .any (s.pre6 enc C.prog fn conds false) (s.post enc C.prog fn false fresh handsOn false) := by
  refine returnsInHanded_of_change_sized own started noInit hfn witness ?_
  intro W base args ds gs before hval hW _ hwt _
  have hW' := hW
  obtain ⟨p, q, hA, hV, rfl, hfz, hnd⟩ := hW
  rw [hv] at hV
  obtain ⟨rfl, rfl⟩ := trodVars_none hV
  simp only [List.append_nil] at hwt hW' ⊢
  rw [show s.plain.varTypes C.prog = [] by simp [ChangeSpec.plain, DataSpec.varTypes, hv], List.append_nil] at hwt
  have hps' : ∀ t ∈ fn.params.toList, C.prog.readableRec t = true ∧ t < C.prog.types.size := fun t h => by
    have := List.all_eq_true.1 hps t h
    simpa using this
  obtain ⟨yss, y1, y2, y3, y4, y6, y5⟩ := open_all (base := base) hfine fn.params.toList args.toList ds p (fun t h => (hps' t h).2) hA (fun n hn => by simpa using List.all_eq_true.1 hwt n hn) (fun j t v h1 h2 => hval j t v (by simpa using h1) (by simpa using h2))
  have hc := walk yss (by simpa using y1) (fun i t ys h1 h2 => y2 i t ys (by simpa using h1) h2)
  refine (hc (⟨fun _ => False, [], none, false⟩ : FO) noneM W args ⟨by simp [keys], by simp [noneM], by simp [noneM], by simp [noneM], by simp, by simp, Globs.nil hgl _ _⟩ ⟨by simp at y1 y3; simp [y1, y3], fun j x y hx hy => y5 j x y (by simpa using hx) hy⟩).mono fun e W' ⟨m', r, L', hr, he, hi, hst⟩ => ?_
  subst hr
  cases e with
  | returned v =>
    simp only [Ends] at he
    have hb := he.bool_inv
    subst hb
    have bel : Below W.heap.size W W' := ⟨hst.os, hst.tape, hst.output, hst.size, fun k hk => hst.block k hk (noneM_own k)⟩
    have hlt : ∀ x ∈ p, x.block < W.heap.size := fun x hx => hW'.lt x (by simpa using hx)
    refine ⟨_, rfl, ds, [], p ++ [], [], p, [], by simpa using hW', ?_, ?_, by simp [hv, DataW.TrodVars, List.append_nil, hs ds (by simpa using y4)], bel.frame _, fun h => by cases h⟩
    · rw [List.append_nil, hs ds (by simpa using y4), hres]
      exact trodAll_mk1 (shut_bool htb _)
    · rw [List.append_nil, hs ds (by simpa using y4)]
      exact trod_all_stays laid bel _ _ _ _ hps' hA hlt
  | panicked c => simp only [Ends] at he
  | _ => simp only [Ends] at he
end Go.Ab

namespace Go.Ab
inductive TK where
  | bool
  | int (k : IntKind)
  | str
  | sl (e : TypeId) (bytes : Nat)
  | st (ts : List TypeId)
  | arr (n : Nat) (e : TypeId)
  | oth
def tyK (P : Program) (t : TypeId) : TK := match P.underlying t with
  | some .bool => .bool
  | some (.int k) => .int k
  | some .string => .str
  | some (.slice e) => .sl e (P.bytesOf e)
  | some (.struct fs) => .st (fs.toList.map (·.type))
  | some (.array n e) => .arr n e
  | _ => .oth
section
variable {P : Program} {t : TypeId} {ys : List D}
theorem HasT.bool_inv (h : HasT P t ys) (hk : tyK P t = .bool) : ∃ b, ys = [.v (.bool b)] := by
  cases h with
  | bool b u => exact ⟨b, rfl⟩
  | int n u h => simp [tyK, u] at hk
  | str s u h => simp [tyK, u] at hk
  | sl xs u hx hl hw => simp [tyK, u] at hk
  | struct yss u hl h => simp [tyK, u] at hk
  | arr yss u hl h => simp [tyK, u] at hk
  | other y u =>
    unfold tyK at hk
    split at hk <;> first | (simp_all [otherT]; done) | cases hk
theorem HasT.int_inv {k : IntKind} (h : HasT P t ys) (hk : tyK P t = .int k) : ∃ n, ys = [.v (.int k n)] ∧ inR k n := by
  cases h with
  | bool b u => simp [tyK, u] at hk
  | int n u h => simp [tyK, u] at hk; subst hk; exact ⟨n, rfl, h⟩
  | str s u h => simp [tyK, u] at hk
  | sl xs u hx hl hw => simp [tyK, u] at hk
  | struct yss u hl h => simp [tyK, u] at hk
  | arr yss u hl h => simp [tyK, u] at hk
  | other y u =>
    unfold tyK at hk
    split at hk <;> first | (simp_all [otherT]; done) | cases hk
theorem HasT.str_inv (h : HasT P t ys) (hk : tyK P t = .str) : ∃ s, ys = [.v (.string s)] ∧ s.size ≤ 140737488351232 := by
  cases h with
  | bool b u => simp [tyK, u] at hk
  | int n u h => simp [tyK, u] at hk
  | str s u h => exact ⟨s, rfl, h⟩
  | sl xs u hx hl hw => simp [tyK, u] at hk
  | struct yss u hl h => simp [tyK, u] at hk
  | arr yss u hl h => simp [tyK, u] at hk
  | other y u =>
    unfold tyK at hk
    split at hk <;> first | (simp_all [otherT]; done) | cases hk
theorem HasT.sl_inv {e : TypeId} {b : Nat} (h : HasT P t ys) (hk : tyK P t = .sl e b) : ∃ xs, ys = [.sl xs] ∧ (∀ x ∈ xs, HasT P e x) ∧ xs.length ≤ 9223372036854775807 ∧ xs.length * b ≤ 140737488351232 := by
  cases h with
  | bool b u => simp [tyK, u] at hk
  | int n u h => simp [tyK, u] at hk
  | str s u h => simp [tyK, u] at hk
  | sl xs u hx hl hw =>
    simp only [tyK, u, TK.sl.injEq] at hk
    obtain ⟨rfl, rfl⟩ := hk
    exact ⟨xs, rfl, fun x hx' => by obtain ⟨i, hi⟩ := List.getElem?_of_mem hx'; exact hx i x hi, hl, hw⟩
  | struct yss u hl h => simp [tyK, u] at hk
  | arr yss u hl h => simp [tyK, u] at hk
  | other y u =>
    unfold tyK at hk
    split at hk <;> first | (simp_all [otherT]; done) | cases hk
def HasTs (P : Program) : List TypeId → List D → Prop
  | [], ys => ys = []
  | t :: ts, ys => ∃ a b, ys = a ++ b ∧ HasT P t a ∧ HasTs P ts b
theorem hasTs_of : ∀ (fs : List Field) (yss : List (List D)), yss.length = fs.length → (∀ (i : Nat) (f : Field) (ys : List D), fs[i]? = some f → yss[i]? = some ys → HasT P f.type ys) → HasTs P (fs.map (·.type)) yss.flatten
  | [], [], _, _ => rfl
  | f :: fs, y :: yss, hl, h => ⟨y, yss.flatten, by simp, h 0 f y rfl rfl, hasTs_of fs yss (by simpa using hl) (fun i f' ys h1 h2 => h (i + 1) f' ys (by simpa using h1) (by simpa using h2))⟩
  | [], _ :: _, hl, _ => by simp at hl
  | _ :: _, [], hl, _ => by simp at hl
theorem HasT.st_inv {ts : List TypeId} (h : HasT P t ys) (hk : tyK P t = .st ts) : HasTs P ts ys := by
  cases h with
  | bool b u => simp [tyK, u] at hk
  | int n u h => simp [tyK, u] at hk
  | str s u h => simp [tyK, u] at hk
  | sl xs u hx hl hw => simp [tyK, u] at hk
  | struct yss u hl h =>
    simp only [tyK, u, TK.st.injEq] at hk
    subst hk
    exact hasTs_of _ yss (by simpa using hl) (fun i f ys h1 h2 => h i f ys (by simpa using h1) h2)
  | arr yss u hl h => simp [tyK, u] at hk
  | other y u =>
    unfold tyK at hk
    split at hk <;> first | (simp_all [otherT]; done) | cases hk
end
theorem map_of {α : Type} {f : α → List D} {p : α → Prop} : ∀ {xs : List (List D)}, (∀ x ∈ xs, ∃ a, x = f a ∧ p a) → ∃ l : List α, xs = l.map f ∧ ∀ a ∈ l, p a
  | [], _ => ⟨[], rfl, by simp⟩
  | x :: xs, h => by
    obtain ⟨a, rfl, ha⟩ := h x List.mem_cons_self
    obtain ⟨l, rfl, hl⟩ := map_of (fun y hy => h y (List.mem_cons_of_mem _ hy))
    exact ⟨a :: l, rfl, by simpa using ⟨ha, hl⟩⟩
theorem HasT.lst {P : Program} {α : Type} {t e : TypeId} {b : Nat} {ys : List D} {f : α → List D} {p : α → Prop} (h : HasT P t ys) (hk : tyK P t = .sl e b) (g : ∀ {zs : List D}, HasT P e zs → ∃ x, zs = f x ∧ p x) :
    ∃ l : List α, ys = [.sl (l.map f)] ∧ l.length * b ≤ 140737488351232 ∧ ∀ x ∈ l, p x := by
  obtain ⟨xs, rfl, h1, -, h2⟩ := h.sl_inv hk
  obtain ⟨l, rfl, h3⟩ := map_of fun x hx => g (h1 x hx)
  exact ⟨l, rfl, by simpa using h2, h3⟩
end Go.Ab

namespace Go.Ab
open Go.Proofs
@[simp] theorem tyA_3 : tyA Tryz.prog 3 = some (false, 1) := by kernel_rfl
@[simp] theorem tyZ0_3 : tyZ0 Tryz.prog 3 = [D.v (.int .i64 0)] := by kernel_rfl
@[simp] theorem tyBool_3 : tyBool Tryz.prog 3 = false := by kernel_rfl
@[simp] theorem tyInt_3 : tyInt Tryz.prog 3 = some .i64 := by kernel_rfl
@[simp] theorem tyIfc_3 : tyIfc Tryz.prog 3 = false := by kernel_rfl
@[simp] theorem tyZV_3 : tyZV Tryz.prog 3 = some (V.d (D.v (.int .i64 0))) := by kernel_rfl
@[simp] theorem tyA_4 : tyA Tryz.prog 4 = some (false, 1) := by kernel_rfl
@[simp] theorem tyZ0_4 : tyZ0 Tryz.prog 4 = [D.v (.bool false)] := by kernel_rfl
@[simp] theorem tyZ_4 : tyZ Tryz.prog 4 = some [.bool false] := by kernel_rfl
@[simp] theorem tyZV_4 : tyZV Tryz.prog 4 = some (V.d (D.v (.bool false))) := by kernel_rfl
@[simp] theorem tyInt_5 : tyInt Tryz.prog 5 = some .u8 := by kernel_rfl
@[simp] theorem tyA_9 : tyA Tryz.prog 9 = some (false, 1) := by kernel_rfl
@[simp] theorem tyStr_9 : tyStr Tryz.prog 9 = true := by kernel_rfl
@[simp] theorem tyZ0_9 : tyZ0 Tryz.prog 9 = [D.v (.string ⟨#[]⟩)] := by kernel_rfl
@[simp] theorem tyBool_9 : tyBool Tryz.prog 9 = false := by kernel_rfl
@[simp] theorem tyConc_9 : tyConc Tryz.prog 9 = true := by kernel_rfl
@[simp] theorem tyIfc_9 : tyIfc Tryz.prog 9 = false := by kernel_rfl
@[simp] theorem tyA_22 : tyA Tryz.prog 22 = some (false, 1) := by kernel_rfl
@[simp] theorem tyE_22 : tyE Tryz.prog 22 = some (9, 1) := by kernel_rfl
@[simp] theorem tySl_22 : tySl Tryz.prog 22 = some (9, 1, 16, [.string ⟨#[]⟩]) := by kernel_rfl
@[simp] theorem tyA_23 : tyA Tryz.prog 23 = some (false, 1) := by kernel_rfl
@[simp] theorem tySrc_23 : tySrc Tryz.prog 23 = true := by kernel_rfl
@[simp] theorem tyZ0_23 : tyZ0 Tryz.prog 23 = [D.sl []] := by kernel_rfl
@[simp] theorem tyE_23 : tyE Tryz.prog 23 = some (3, 1) := by kernel_rfl
@[simp] theorem tySl_23 : tySl Tryz.prog 23 = some (3, 1, 8, [.int .i64 0]) := by kernel_rfl
@[simp] theorem tyArr_23 : tyArr Tryz.prog 23 = none := by kernel_rfl
@[simp] theorem tyA_24 : tyA Tryz.prog 24 = some (false, 1) := by kernel_rfl
@[simp] theorem tyE_24 : tyE Tryz.prog 24 = some (42, 9) := by kernel_rfl
@[simp] theorem tySl_24 : tySl Tryz.prog 24 = some (42, 9, 136, [.int .i64 0, .int .i64 0, .int .i64 0, .int .i64 0, .bool false, .slice none 0 0, .slice none 0 0, .slice none 0 0, .slice none 0 0]) := by kernel_rfl
@[simp] theorem tyA_25 : tyA Tryz.prog 25 = some (false, 1) := by kernel_rfl
@[simp] theorem tyE_25 : tyE Tryz.prog 25 = some (48, 2) := by kernel_rfl
@[simp] theorem tySl_25 : tySl Tryz.prog 25 = some (48, 2, 32, [.bool false, .slice none 0 0]) := by kernel_rfl
@[simp] theorem tyA_26 : tyA Tryz.prog 26 = some (false, 1) := by kernel_rfl
@[simp] theorem tyE_26 : tyE Tryz.prog 26 = some (50, 6) := by kernel_rfl
@[simp] theorem tySl_26 : tySl Tryz.prog 26 = some (50, 6, 48, [.int .i64 0, .int .i64 0, .int .i64 0, .int .i64 0, .int .i64 0, .int .i64 0]) := by kernel_rfl
@[simp] theorem tyA_28 : tyA Tryz.prog 28 = some (true, 15) := by kernel_rfl
@[simp] theorem tyZ0_28 : tyZ0 Tryz.prog 28 = [D.v (.int .i64 0), D.v (.int .i64 0), D.v (.int .i64 0), D.v (.int .i64 0), D.sl [], D.v (.int .i64 0), D.sl [], D.sl [], D.sl [], D.sl [], D.sl [], D.sl [], D.sl [], D.sl [], D.sl []] := by kernel_rfl
@[simp] theorem tyZ_28 : tyZ Tryz.prog 28 = some [.int .i64 0, .int .i64 0, .int .i64 0, .int .i64 0, .slice none 0 0, .int .i64 0, .slice none 0 0, .slice none 0 0, .slice none 0 0, .slice none 0 0, .slice none 0 0, .slice none 0 0, .slice none 0 0, .slice none 0 0, .slice none 0 0] := by kernel_rfl
@[simp] theorem tyF_28_0 : tyF Tryz.prog 28 0 = some (0, false, 1) := by kernel_rfl
@[simp] theorem tyF_28_1 : tyF Tryz.prog 28 1 = some (1, false, 1) := by kernel_rfl
@[simp] theorem tyF_28_2 : tyF Tryz.prog 28 2 = some (2, false, 1) := by kernel_rfl
@[simp] theorem tyF_28_3 : tyF Tryz.prog 28 3 = some (3, false, 1) := by kernel_rfl
@[simp] theorem tyF_28_4 : tyF Tryz.prog 28 4 = some (4, false, 1) := by kernel_rfl
@[simp] theorem tyF_28_5 : tyF Tryz.prog 28 5 = some (5, false, 1) := by kernel_rfl
@[simp] theorem tyF_28_6 : tyF Tryz.prog 28 6 = some (6, false, 1) := by kernel_rfl
@[simp] theorem tyF_28_7 : tyF Tryz.prog 28 7 = some (7, false, 1) := by kernel_rfl
@[simp] theorem tyF_28_8 : tyF Tryz.prog 28 8 = some (8, false, 1) := by kernel_rfl
@[simp] theorem tyF_28_9 : tyF Tryz.prog 28 9 = some (9, false, 1) := by kernel_rfl
@[simp] theorem tyF_28_10 : tyF Tryz.prog 28 10 = some (10, false, 1) := by kernel_rfl
@[simp] theorem tyF_28_11 : tyF Tryz.prog 28 11 = some (11, false, 1) := by kernel_rfl
@[simp] theorem tyF_28_12 : tyF Tryz.prog 28 12 = some (12, false, 1) := by kernel_rfl
@[simp] theorem tyF_28_13 : tyF Tryz.prog 28 13 = some (13, false, 1) := by kernel_rfl
@[simp] theorem tyF_28_14 : tyF Tryz.prog 28 14 = some (14, false, 1) := by kernel_rfl
@[simp] theorem tyB_28 : tyB Tryz.prog 28 = some ([.int .i64 0, .int .i64 0, .int .i64 0, .int .i64 0, .slice none 0 0, .int .i64 0, .slice none 0 0, .slice none 0 0, .slice none 0 0, .slice none 0 0, .slice none 0 0, .slice none 0 0, .slice none 0 0, .slice none 0 0, .slice none 0 0], [(0, 1), (1, 1), (2, 1), (3, 1), (4, 1), (5, 1), (6, 1), (7, 1), (8, 1), (9, 1), (10, 1), (11, 1), (12, 1), (13, 1), (14, 1)]) := by kernel_rfl
@[simp] theorem tyA_29 : tyA Tryz.prog 29 = some (false, 1) := by kernel_rfl
@[simp] theorem tySrc_29 : tySrc Tryz.prog 29 = true := by kernel_rfl
@[simp] theorem tyZ0_29 : tyZ0 Tryz.prog 29 = [D.sl []] := by kernel_rfl
@[simp] theorem tyE_29 : tyE Tryz.prog 29 = some (36, 1) := by kernel_rfl
@[simp] theorem tySl_29 : tySl Tryz.prog 29 = some (36, 1, 24, [.slice none 0 0]) := by kernel_rfl
@[simp] theorem tyA_31 : tyA Tryz.prog 31 = some (true, 16) := by kernel_rfl
@[simp] theorem tyZ0_31 : tyZ0 Tryz.prog 31 = [D.v (.int .i64 0), D.v (.int .i64 0), D.v (.int .i64 0), D.v (.int .i64 0), D.sl [], D.v (.int .i64 0), D.sl [], D.sl [], D.sl [], D.sl [], D.sl [], D.sl [], D.sl [], D.sl [], D.sl [], D.sl []] := by kernel_rfl
@[simp] theorem tyZ_31 : tyZ Tryz.prog 31 = some [.int .i64 0, .int .i64 0, .int .i64 0, .int .i64 0, .slice none 0 0, .int .i64 0, .slice none 0 0, .slice none 0 0, .slice none 0 0, .slice none 0 0, .slice none 0 0, .slice none 0 0, .slice none 0 0, .slice none 0 0, .slice none 0 0, .slice none 0 0] := by kernel_rfl
@[simp] theorem tyF_31_0 : tyF Tryz.prog 31 0 = some (0, true, 15) := by kernel_rfl
@[simp] theorem tyF_31_1 : tyF Tryz.prog 31 1 = some (15, false, 1) := by kernel_rfl
@[simp] theorem tyB_31 : tyB Tryz.prog 31 = some ([.int .i64 0, .int .i64 0, .int .i64 0, .int .i64 0, .slice none 0 0, .int .i64 0, .slice none 0 0, .slice none 0 0, .slice none 0 0, .slice none 0 0, .slice none 0 0, .slice none 0 0, .slice none 0 0, .slice none 0 0, .slice none 0 0, .slice none 0 0], [(0, 15), (15, 1)]) := by kernel_rfl
@[simp] theorem tyA_36 : tyA Tryz.prog 36 = some (false, 1) := by kernel_rfl
@[simp] theorem tySrc_36 : tySrc Tryz.prog 36 = true := by kernel_rfl
@[simp] theorem tyZ0_36 : tyZ0 Tryz.prog 36 = [D.sl []] := by kernel_rfl
@[simp] theorem tyE_36 : tyE Tryz.prog 36 = some (53, 6) := by kernel_rfl
@[simp] theorem tySl_36 : tySl Tryz.prog 36 = some (53, 6, 104, [.int .i64 0, .int .i64 0, .string ⟨#[]⟩, .slice none 0 0, .slice none 0 0, .slice none 0 0]) := by kernel_rfl
@[simp] theorem tyArr_36 : tyArr Tryz.prog 36 = none := by kernel_rfl
@[simp] theorem tyA_40 : tyA Tryz.prog 40 = some (false, 1) := by kernel_rfl
@[simp] theorem tyE_40 : tyE Tryz.prog 40 = some (80, 4) := by kernel_rfl
@[simp] theorem tyA_42 : tyA Tryz.prog 42 = some (true, 9) := by kernel_rfl
@[simp] theorem tyZ0_42 : tyZ0 Tryz.prog 42 = [D.v (.int .i64 0), D.v (.int .i64 0), D.v (.int .i64 0), D.v (.int .i64 0), D.v (.bool false), D.sl [], D.sl [], D.sl [], D.sl []] := by kernel_rfl
@[simp] theorem tyZ_42 : tyZ Tryz.prog 42 = some [.int .i64 0, .int .i64 0, .int .i64 0, .int .i64 0, .bool false, .slice none 0 0, .slice none 0 0, .slice none 0 0, .slice none 0 0] := by kernel_rfl
@[simp] theorem tyF_42_0 : tyF Tryz.prog 42 0 = some (0, false, 1) := by kernel_rfl
@[simp] theorem tyF_42_1 : tyF Tryz.prog 42 1 = some (1, false, 1) := by kernel_rfl
@[simp] theorem tyF_42_2 : tyF Tryz.prog 42 2 = some (2, false, 1) := by kernel_rfl
@[simp] theorem tyF_42_3 : tyF Tryz.prog 42 3 = some (3, false, 1) := by kernel_rfl
@[simp] theorem tyF_42_4 : tyF Tryz.prog 42 4 = some (4, false, 1) := by kernel_rfl
@[simp] theorem tyF_42_5 : tyF Tryz.prog 42 5 = some (5, false, 1) := by kernel_rfl
@[simp] theorem tyF_42_6 : tyF Tryz.prog 42 6 = some (6, false, 1) := by kernel_rfl
@[simp] theorem tyF_42_7 : tyF Tryz.prog 42 7 = some (7, false, 1) := by kernel_rfl
@[simp] theorem tyF_42_8 : tyF Tryz.prog 42 8 = some (8, false, 1) := by kernel_rfl
@[simp] theorem tyB_42 : tyB Tryz.prog 42 = some ([.int .i64 0, .int .i64 0, .int .i64 0, .int .i64 0, .bool false, .slice none 0 0, .slice none 0 0, .slice none 0 0, .slice none 0 0], [(0, 1), (1, 1), (2, 1), (3, 1), (4, 1), (5, 1), (6, 1), (7, 1), (8, 1)]) := by kernel_rfl
@[simp] theorem tyA_44 : tyA Tryz.prog 44 = some (true, 2) := by kernel_rfl
@[simp] theorem tyZ0_44 : tyZ0 Tryz.prog 44 = [D.v (.int .i64 0), D.sl []] := by kernel_rfl
@[simp] theorem tyZ_44 : tyZ Tryz.prog 44 = some [.int .i64 0, .slice none 0 0] := by kernel_rfl
@[simp] theorem tyF_44_0 : tyF Tryz.prog 44 0 = some (0, false, 1) := by kernel_rfl
@[simp] theorem tyF_44_1 : tyF Tryz.prog 44 1 = some (1, false, 1) := by kernel_rfl
@[simp] theorem tyB_44 : tyB Tryz.prog 44 = some ([.int .i64 0, .slice none 0 0], [(0, 1), (1, 1)]) := by kernel_rfl
@[simp] theorem tyA_45 : tyA Tryz.prog 45 = some (false, 1) := by kernel_rfl
@[simp] theorem tyZ0_45 : tyZ0 Tryz.prog 45 = [D.sl []] := by kernel_rfl
@[simp] theorem tyE_45 : tyE Tryz.prog 45 = some (44, 2) := by kernel_rfl
@[simp] theorem tySl_45 : tySl Tryz.prog 45 = some (44, 2, 32, [.int .i64 0, .slice none 0 0]) := by kernel_rfl
@[simp] theorem tyA_46 : tyA Tryz.prog 46 = some (false, 1) := by kernel_rfl
@[simp] theorem tyE_46 : tyE Tryz.prog 46 = some (45, 1) := by kernel_rfl
@[simp] theorem tySl_46 : tySl Tryz.prog 46 = some (45, 1, 24, [.slice none 0 0]) := by kernel_rfl
@[simp] theorem tyA_48 : tyA Tryz.prog 48 = some (true, 2) := by kernel_rfl
@[simp] theorem tyZ0_48 : tyZ0 Tryz.prog 48 = [D.v (.bool false), D.sl []] := by kernel_rfl
@[simp] theorem tyZ_48 : tyZ Tryz.prog 48 = some [.bool false, .slice none 0 0] := by kernel_rfl
@[simp] theorem tyF_48_1 : tyF Tryz.prog 48 1 = some (1, false, 1) := by kernel_rfl
@[simp] theorem tyB_48 : tyB Tryz.prog 48 = some ([.bool false, .slice none 0 0], [(0, 1), (1, 1)]) := by kernel_rfl
@[simp] theorem tyA_50 : tyA Tryz.prog 50 = some (true, 6) := by kernel_rfl
@[simp] theorem tyZ0_50 : tyZ0 Tryz.prog 50 = [D.v (.int .i64 0), D.v (.int .i64 0), D.v (.int .i64 0), D.v (.int .i64 0), D.v (.int .i64 0), D.v (.int .i64 0)] := by kernel_rfl
@[simp] theorem tyZ_50 : tyZ Tryz.prog 50 = some [.int .i64 0, .int .i64 0, .int .i64 0, .int .i64 0, .int .i64 0, .int .i64 0] := by kernel_rfl
@[simp] theorem tyF_50_0 : tyF Tryz.prog 50 0 = some (0, false, 1) := by kernel_rfl
@[simp] theorem tyF_50_1 : tyF Tryz.prog 50 1 = some (1, false, 1) := by kernel_rfl
@[simp] theorem tyF_50_2 : tyF Tryz.prog 50 2 = some (2, false, 1) := by kernel_rfl
@[simp] theorem tyF_50_3 : tyF Tryz.prog 50 3 = some (3, false, 1) := by kernel_rfl
@[simp] theorem tyF_50_4 : tyF Tryz.prog 50 4 = some (4, false, 1) := by kernel_rfl
@[simp] theorem tyF_50_5 : tyF Tryz.prog 50 5 = some (5, false, 1) := by kernel_rfl
@[simp] theorem tyB_50 : tyB Tryz.prog 50 = some ([.int .i64 0, .int .i64 0, .int .i64 0, .int .i64 0, .int .i64 0, .int .i64 0], [(0, 1), (1, 1), (2, 1), (3, 1), (4, 1), (5, 1)]) := by kernel_rfl
@[simp] theorem tyA_51 : tyA Tryz.prog 51 = some (false, 1) := by kernel_rfl
@[simp] theorem tyStr_51 : tyStr Tryz.prog 51 = false := by kernel_rfl
@[simp] theorem tySrc_51 : tySrc Tryz.prog 51 = true := by kernel_rfl
@[simp] theorem tyZ0_51 : tyZ0 Tryz.prog 51 = [D.sl []] := by kernel_rfl
@[simp] theorem tyE_51 : tyE Tryz.prog 51 = some (75, 5) := by kernel_rfl
@[simp] theorem tySl_51 : tySl Tryz.prog 51 = some (75, 5, 64, [.int .i64 0, .int .i64 0, .int .i64 0, .string ⟨#[]⟩, .slice none 0 0]) := by kernel_rfl
@[simp] theorem tyA_53 : tyA Tryz.prog 53 = some (true, 6) := by kernel_rfl
@[simp] theorem tyZ0_53 : tyZ0 Tryz.prog 53 = [D.v (.int .i64 0), D.v (.int .i64 0), D.v (.string ⟨#[]⟩), D.sl [], D.sl [], D.sl []] := by kernel_rfl
@[simp] theorem tyZ_53 : tyZ Tryz.prog 53 = some [.int .i64 0, .int .i64 0, .string ⟨#[]⟩, .slice none 0 0, .slice none 0 0, .slice none 0 0] := by kernel_rfl
@[simp] theorem tyF_53_0 : tyF Tryz.prog 53 0 = some (0, false, 1) := by kernel_rfl
@[simp] theorem tyF_53_1 : tyF Tryz.prog 53 1 = some (1, false, 1) := by kernel_rfl
@[simp] theorem tyF_53_2 : tyF Tryz.prog 53 2 = some (2, false, 1) := by kernel_rfl
@[simp] theorem tyF_53_3 : tyF Tryz.prog 53 3 = some (3, false, 1) := by kernel_rfl
@[simp] theorem tyF_53_4 : tyF Tryz.prog 53 4 = some (4, false, 1) := by kernel_rfl
@[simp] theorem tyF_53_5 : tyF Tryz.prog 53 5 = some (5, false, 1) := by kernel_rfl
@[simp] theorem tyB_53 : tyB Tryz.prog 53 = some ([.int .i64 0, .int .i64 0, .string ⟨#[]⟩, .slice none 0 0, .slice none 0 0, .slice none 0 0], [(0, 1), (1, 1), (2, 1), (3, 1), (4, 1), (5, 1)]) := by kernel_rfl
@[simp] theorem tyA_54 : tyA Tryz.prog 54 = some (false, 1) := by kernel_rfl
@[simp] theorem tyStr_54 : tyStr Tryz.prog 54 = false := by kernel_rfl
@[simp] theorem tySrc_54 : tySrc Tryz.prog 54 = true := by kernel_rfl
@[simp] theorem tyZ0_54 : tyZ0 Tryz.prog 54 = [D.sl []] := by kernel_rfl
@[simp] theorem tyE_54 : tyE Tryz.prog 54 = some (5, 1) := by kernel_rfl
@[simp] theorem tySl_54 : tySl Tryz.prog 54 = some (5, 1, 1, [.int .u8 0]) := by kernel_rfl
@[simp] theorem tyA_56 : tyA Tryz.prog 56 = some (true, 17) := by kernel_rfl
@[simp] theorem tyZ_56 : tyZ Tryz.prog 56 = some [.int .i64 0, .int .i64 0, .int .i64 0, .int .i64 0, .slice none 0 0, .int .i64 0, .slice none 0 0, .slice none 0 0, .slice none 0 0, .slice none 0 0, .slice none 0 0, .slice none 0 0, .slice none 0 0, .slice none 0 0, .slice none 0 0, .slice none 0 0, .slice none 0 0] := by kernel_rfl
@[simp] theorem tyF_56_1 : tyF Tryz.prog 56 1 = some (15, false, 1) := by kernel_rfl
@[simp] theorem tyF_56_2 : tyF Tryz.prog 56 2 = some (16, false, 1) := by kernel_rfl
@[simp] theorem tyB_56 : tyB Tryz.prog 56 = some ([.int .i64 0, .int .i64 0, .int .i64 0, .int .i64 0, .slice none 0 0, .int .i64 0, .slice none 0 0, .slice none 0 0, .slice none 0 0, .slice none 0 0, .slice none 0 0, .slice none 0 0, .slice none 0 0, .slice none 0 0, .slice none 0 0, .slice none 0 0, .slice none 0 0], [(0, 15), (15, 1), (16, 1)]) := by kernel_rfl
@[simp] theorem tyA_75 : tyA Tryz.prog 75 = some (true, 5) := by kernel_rfl
@[simp] theorem tyZ0_75 : tyZ0 Tryz.prog 75 = [D.v (.int .i64 0), D.v (.int .i64 0), D.v (.int .i64 0), D.v (.string ⟨#[]⟩), D.sl []] := by kernel_rfl
@[simp] theorem tyZ_75 : tyZ Tryz.prog 75 = some [.int .i64 0, .int .i64 0, .int .i64 0, .string ⟨#[]⟩, .slice none 0 0] := by kernel_rfl
@[simp] theorem tyF_75_0 : tyF Tryz.prog 75 0 = some (0, false, 1) := by kernel_rfl
@[simp] theorem tyF_75_1 : tyF Tryz.prog 75 1 = some (1, false, 1) := by kernel_rfl
@[simp] theorem tyF_75_2 : tyF Tryz.prog 75 2 = some (2, false, 1) := by kernel_rfl
@[simp] theorem tyF_75_3 : tyF Tryz.prog 75 3 = some (3, false, 1) := by kernel_rfl
@[simp] theorem tyF_75_4 : tyF Tryz.prog 75 4 = some (4, false, 1) := by kernel_rfl
@[simp] theorem tyB_75 : tyB Tryz.prog 75 = some ([.int .i64 0, .int .i64 0, .int .i64 0, .string ⟨#[]⟩, .slice none 0 0], [(0, 1), (1, 1), (2, 1), (3, 1), (4, 1)]) := by kernel_rfl
@[simp] theorem tyA_76 : tyA Tryz.prog 76 = some (false, 1) := by kernel_rfl
@[simp] theorem tyA_80 : tyA Tryz.prog 80 = some (true, 4) := by kernel_rfl
@[simp] theorem tyZ0_80 : tyZ0 Tryz.prog 80 = [D.v (.int .i64 0), D.v (.int .i64 0), D.v (.int .i64 0), D.v (.int .i64 0)] := by kernel_rfl
@[simp] theorem tyZ_80 : tyZ Tryz.prog 80 = some [.int .i64 0, .int .i64 0, .int .i64 0, .int .i64 0] := by kernel_rfl
@[simp] theorem tyF_80_0 : tyF Tryz.prog 80 0 = some (0, false, 1) := by kernel_rfl
@[simp] theorem tyF_80_1 : tyF Tryz.prog 80 1 = some (1, false, 1) := by kernel_rfl
@[simp] theorem tyF_80_2 : tyF Tryz.prog 80 2 = some (2, false, 1) := by kernel_rfl
@[simp] theorem tyF_80_3 : tyF Tryz.prog 80 3 = some (3, false, 1) := by kernel_rfl
@[simp] theorem tyA_82 : tyA Tryz.prog 82 = some (false, 1) := by kernel_rfl
@[simp] theorem tyStr_82 : tyStr Tryz.prog 82 = false := by kernel_rfl
@[simp] theorem tySrc_82 : tySrc Tryz.prog 82 = true := by kernel_rfl
@[simp] theorem tyZ0_82 : tyZ0 Tryz.prog 82 = [D.sl []] := by kernel_rfl
@[simp] theorem tyE_82 : tyE Tryz.prog 82 = some (116, 2) := by kernel_rfl
@[simp] theorem tySl_82 : tySl Tryz.prog 82 = some (116, 2, 16, [.int .i64 0, .int .i64 0]) := by kernel_rfl
@[simp] theorem tyA_85 : tyA Tryz.prog 85 = some (false, 1) := by kernel_rfl
@[simp] theorem tyZ_85 : tyZ Tryz.prog 85 = some [.nilFunc] := by kernel_rfl
@[simp] theorem tyA_94 : tyA Tryz.prog 94 = some (false, 1) := by kernel_rfl
@[simp] theorem tyE_94 : tyE Tryz.prog 94 = some (4, 1) := by kernel_rfl
@[simp] theorem tySl_94 : tySl Tryz.prog 94 = some (4, 1, 1, [.bool false]) := by kernel_rfl
@[simp] theorem tyF_96_0 : tyF Tryz.prog 96 0 = some (0, true, 15) := by kernel_rfl
@[simp] theorem tyF_96_1 : tyF Tryz.prog 96 1 = some (15, false, 1) := by kernel_rfl
@[simp] theorem tyF_96_2 : tyF Tryz.prog 96 2 = some (16, false, 1) := by kernel_rfl
@[simp] theorem tyF_96_3 : tyF Tryz.prog 96 3 = some (17, false, 1) := by kernel_rfl
@[simp] theorem tyB_96 : tyB Tryz.prog 96 = some ([.int .i64 0, .int .i64 0, .int .i64 0, .int .i64 0, .slice none 0 0, .int .i64 0, .slice none 0 0, .slice none 0 0, .slice none 0 0, .slice none 0 0, .slice none 0 0, .slice none 0 0, .slice none 0 0, .slice none 0 0, .slice none 0 0, .slice none 0 0, .slice none 0 0, .slice none 0 0], [(0, 15), (15, 1), (16, 1), (17, 1)]) := by kernel_rfl
@[simp] theorem tyA_112 : tyA Tryz.prog 112 = some (false, 1) := by kernel_rfl
@[simp] theorem tyM_112 : tyM Tryz.prog 112 = some (.int .i64, 3) := by kernel_rfl
@[simp] theorem tyF_114_0 : tyF Tryz.prog 114 0 = some (0, false, 1) := by kernel_rfl
@[simp] theorem tyF_114_1 : tyF Tryz.prog 114 1 = some (1, false, 1) := by kernel_rfl
@[simp] theorem tyF_114_2 : tyF Tryz.prog 114 2 = some (2, false, 1) := by kernel_rfl
@[simp] theorem tyF_114_3 : tyF Tryz.prog 114 3 = some (3, false, 1) := by kernel_rfl
@[simp] theorem tyB_114 : tyB Tryz.prog 114 = some ([.slice none 0 0, .slice none 0 0, .slice none 0 0, .map none], [(0, 1), (1, 1), (2, 1), (3, 1)]) := by kernel_rfl
@[simp] theorem tyA_116 : tyA Tryz.prog 116 = some (true, 2) := by kernel_rfl
@[simp] theorem tyZ0_116 : tyZ0 Tryz.prog 116 = [D.v (.int .i64 0), D.v (.int .i64 0)] := by kernel_rfl
@[simp] theorem tyZ_116 : tyZ Tryz.prog 116 = some [.int .i64 0, .int .i64 0] := by kernel_rfl
@[simp] theorem tyF_116_0 : tyF Tryz.prog 116 0 = some (0, false, 1) := by kernel_rfl
@[simp] theorem tyF_116_1 : tyF Tryz.prog 116 1 = some (1, false, 1) := by kernel_rfl
@[simp] theorem tyB_116 : tyB Tryz.prog 116 = some ([.int .i64 0, .int .i64 0], [(0, 1), (1, 1)]) := by kernel_rfl
@[simp] theorem tyA_120 : tyA Tryz.prog 120 = some (false, 1) := by kernel_rfl
@[simp] theorem tySrc_120 : tySrc Tryz.prog 120 = true := by kernel_rfl
@[simp] theorem tyZ0_120 : tyZ0 Tryz.prog 120 = [D.sl []] := by kernel_rfl
@[simp] theorem tyE_120 : tyE Tryz.prog 120 = some (116, 2) := by kernel_rfl
@[simp] theorem tySl_120 : tySl Tryz.prog 120 = some (116, 2, 16, [.int .i64 0, .int .i64 0]) := by kernel_rfl
@[simp] theorem tyA_123 : tyA Tryz.prog 123 = some (false, 1) := by kernel_rfl
@[simp] theorem tyZ0_123 : tyZ0 Tryz.prog 123 = [D.v (.pointer none)] := by kernel_rfl
@[simp] theorem tyF_125_0 : tyF Tryz.prog 125 0 = some (0, false, 1) := by kernel_rfl
@[simp] theorem tyF_125_1 : tyF Tryz.prog 125 1 = some (1, false, 1) := by kernel_rfl
@[simp] theorem tyB_125 : tyB Tryz.prog 125 = some ([.slice none 0 0, .int .i64 0], [(0, 1), (1, 1)]) := by kernel_rfl
@[simp] theorem tyA_132 : tyA Tryz.prog 132 = some (false, 1) := by kernel_rfl
@[simp] theorem tyA_134 : tyA Tryz.prog 134 = some (true, 3) := by kernel_rfl
@[simp] theorem tyZ_134 : tyZ Tryz.prog 134 = some [.nilFunc, .nilFunc, .int .i64 0] := by kernel_rfl
@[simp] theorem tyF_134_0 : tyF Tryz.prog 134 0 = some (0, false, 1) := by kernel_rfl
@[simp] theorem tyF_134_1 : tyF Tryz.prog 134 1 = some (1, false, 1) := by kernel_rfl
@[simp] theorem tyF_134_2 : tyF Tryz.prog 134 2 = some (2, false, 1) := by kernel_rfl
@[simp] theorem tyB_134 : tyB Tryz.prog 134 = some ([.nilFunc, .nilFunc, .int .i64 0], [(0, 1), (1, 1), (2, 1)]) := by kernel_rfl
@[simp] theorem tyM_147 : tyM Tryz.prog 147 = some (.int .i64, 4) := by kernel_rfl
@[simp] theorem tyInt_150 : tyInt Tryz.prog 150 = some .i16 := by kernel_rfl
@[simp] theorem tyA_153 : tyA Tryz.prog 153 = some (false, 1) := by kernel_rfl
@[simp] theorem tyZ_153 : tyZ Tryz.prog 153 = some [.nilFunc] := by kernel_rfl
@[simp] theorem tyA_161 : tyA Tryz.prog 161 = some (true, 39) := by kernel_rfl
@[simp] theorem tyZ_161 : tyZ Tryz.prog 161 = some [.string ⟨#[]⟩, .string ⟨#[]⟩, .string ⟨#[]⟩, .string ⟨#[]⟩, .string ⟨#[]⟩, .string ⟨#[]⟩, .string ⟨#[]⟩, .string ⟨#[]⟩, .string ⟨#[]⟩, .string ⟨#[]⟩, .string ⟨#[]⟩, .string ⟨#[]⟩, .string ⟨#[]⟩, .string ⟨#[]⟩, .string ⟨#[]⟩, .string ⟨#[]⟩, .string ⟨#[]⟩, .string ⟨#[]⟩, .string ⟨#[]⟩, .string ⟨#[]⟩, .string ⟨#[]⟩, .string ⟨#[]⟩, .string ⟨#[]⟩, .string ⟨#[]⟩, .string ⟨#[]⟩, .string ⟨#[]⟩, .string ⟨#[]⟩, .string ⟨#[]⟩, .string ⟨#[]⟩, .string ⟨#[]⟩, .string ⟨#[]⟩, .string ⟨#[]⟩, .string ⟨#[]⟩, .string ⟨#[]⟩, .string ⟨#[]⟩, .string ⟨#[]⟩, .string ⟨#[]⟩, .string ⟨#[]⟩, .string ⟨#[]⟩] := by kernel_rfl
@[simp] theorem tyArr_161 : tyArr Tryz.prog 161 = some (39, false, 1) := by kernel_rfl
@[simp] theorem tyB_161 : tyB Tryz.prog 161 = some ([.string ⟨#[]⟩, .string ⟨#[]⟩, .string ⟨#[]⟩, .string ⟨#[]⟩, .string ⟨#[]⟩, .string ⟨#[]⟩, .string ⟨#[]⟩, .string ⟨#[]⟩, .string ⟨#[]⟩, .string ⟨#[]⟩, .string ⟨#[]⟩, .string ⟨#[]⟩, .string ⟨#[]⟩, .string ⟨#[]⟩, .string ⟨#[]⟩, .string ⟨#[]⟩, .string ⟨#[]⟩, .string ⟨#[]⟩, .string ⟨#[]⟩, .string ⟨#[]⟩, .string ⟨#[]⟩, .string ⟨#[]⟩, .string ⟨#[]⟩, .string ⟨#[]⟩, .string ⟨#[]⟩, .string ⟨#[]⟩, .string ⟨#[]⟩, .string ⟨#[]⟩, .string ⟨#[]⟩, .string ⟨#[]⟩, .string ⟨#[]⟩, .string ⟨#[]⟩, .string ⟨#[]⟩, .string ⟨#[]⟩, .string ⟨#[]⟩, .string ⟨#[]⟩, .string ⟨#[]⟩, .string ⟨#[]⟩, .string ⟨#[]⟩], [(0, 1), (1, 1), (2, 1), (3, 1), (4, 1), (5, 1), (6, 1), (7, 1), (8, 1), (9, 1), (10, 1), (11, 1), (12, 1), (13, 1), (14, 1), (15, 1), (16, 1), (17, 1), (18, 1), (19, 1), (20, 1), (21, 1), (22, 1), (23, 1), (24, 1), (25, 1), (26, 1), (27, 1), (28, 1), (29, 1), (30, 1), (31, 1), (32, 1), (33, 1), (34, 1), (35, 1), (36, 1), (37, 1), (38, 1)]) := by kernel_rfl
@[simp] theorem tyE_164 : tyE Tryz.prog 164 = some (54, 1) := by kernel_rfl
@[simp] theorem tySl_164 : tySl Tryz.prog 164 = some (54, 1, 24, [.slice none 0 0]) := by kernel_rfl
@[simp] theorem tyA_170 : tyA Tryz.prog 170 = some (true, 5) := by kernel_rfl
@[simp] theorem tyZ_170 : tyZ Tryz.prog 170 = some [.bool false, .bool false, .bool false, .int .i64 0, .int .i64 0] := by kernel_rfl
@[simp] theorem tyF_170_0 : tyF Tryz.prog 170 0 = some (0, false, 1) := by kernel_rfl
@[simp] theorem tyF_170_1 : tyF Tryz.prog 170 1 = some (1, false, 1) := by kernel_rfl
@[simp] theorem tyF_170_2 : tyF Tryz.prog 170 2 = some (2, false, 1) := by kernel_rfl
@[simp] theorem tyF_170_3 : tyF Tryz.prog 170 3 = some (3, false, 1) := by kernel_rfl
@[simp] theorem tyF_170_4 : tyF Tryz.prog 170 4 = some (4, false, 1) := by kernel_rfl
@[simp] theorem tyB_170 : tyB Tryz.prog 170 = some ([.bool false, .bool false, .bool false, .int .i64 0, .int .i64 0], [(0, 1), (1, 1), (2, 1), (3, 1), (4, 1)]) := by kernel_rfl
@[simp] theorem tyA_174 : tyA Tryz.prog 174 = some (true, 3) := by kernel_rfl
@[simp] theorem tyZ_174 : tyZ Tryz.prog 174 = some [.int .i64 0, .int .i64 0, .string ⟨#[]⟩] := by kernel_rfl
@[simp] theorem tyEq_174 : tyEq Tryz.prog 174 = some [.i .i64, .i .i64, .s] := by kernel_rfl
@[simp] theorem tyF_174_0 : tyF Tryz.prog 174 0 = some (0, false, 1) := by kernel_rfl
@[simp] theorem tyF_174_1 : tyF Tryz.prog 174 1 = some (1, false, 1) := by kernel_rfl
@[simp] theorem tyF_174_2 : tyF Tryz.prog 174 2 = some (2, false, 1) := by kernel_rfl
@[simp] theorem tyB_174 : tyB Tryz.prog 174 = some ([.int .i64 0, .int .i64 0, .string ⟨#[]⟩], [(0, 1), (1, 1), (2, 1)]) := by kernel_rfl
@[simp] theorem tyA_176 : tyA Tryz.prog 176 = some (true, 5) := by kernel_rfl
@[simp] theorem tyZ_176 : tyZ Tryz.prog 176 = some [.bool false, .bool false, .bool false, .int .i64 0, .int .i64 0] := by kernel_rfl
@[simp] theorem tyF_176_0 : tyF Tryz.prog 176 0 = some (0, false, 1) := by kernel_rfl
@[simp] theorem tyF_176_1 : tyF Tryz.prog 176 1 = some (1, false, 1) := by kernel_rfl
@[simp] theorem tyF_176_2 : tyF Tryz.prog 176 2 = some (2, false, 1) := by kernel_rfl
@[simp] theorem tyF_176_3 : tyF Tryz.prog 176 3 = some (3, false, 1) := by kernel_rfl
@[simp] theorem tyF_176_4 : tyF Tryz.prog 176 4 = some (4, false, 1) := by kernel_rfl
@[simp] theorem tyB_176 : tyB Tryz.prog 176 = some ([.bool false, .bool false, .bool false, .int .i64 0, .int .i64 0], [(0, 1), (1, 1), (2, 1), (3, 1), (4, 1)]) := by kernel_rfl
@[simp] theorem tyA_183 : tyA Tryz.prog 183 = some (true, 13) := by kernel_rfl
@[simp] theorem tyF_183_1 : tyF Tryz.prog 183 1 = some (1, false, 1) := by kernel_rfl
@[simp] theorem tyF_183_2 : tyF Tryz.prog 183 2 = some (2, false, 1) := by kernel_rfl
@[simp] theorem tyF_183_3 : tyF Tryz.prog 183 3 = some (3, false, 1) := by kernel_rfl
@[simp] theorem tyB_183 : tyB Tryz.prog 183 = some ([.slice none 0 0, .slice none 0 0, .slice none 0 0, .slice none 0 0, .slice none 0 0, .slice none 0 0, .slice none 0 0, .int .u64 0, .int .i64 0, .int .i64 0, .int .i64 0, .int .i64 0, .int .i64 0], [(0, 1), (1, 1), (2, 1), (3, 1), (4, 1), (5, 1), (6, 1), (7, 1), (8, 1), (9, 1), (10, 1), (11, 1), (12, 1)]) := by kernel_rfl
@[simp] theorem tyE_196 : tyE Tryz.prog 196 = some (120, 1) := by kernel_rfl
@[simp] theorem tySl_196 : tySl Tryz.prog 196 = some (120, 1, 24, [.slice none 0 0]) := by kernel_rfl
@[simp] theorem enters_3 : enters Tryz.prog 3 = true := by kernel_rfl
@[simp] theorem enters_4 : enters Tryz.prog 4 = true := by kernel_rfl
@[simp] theorem enters_5 : enters Tryz.prog 5 = true := by kernel_rfl
@[simp] theorem enters_6 : enters Tryz.prog 6 = true := by kernel_rfl
@[simp] theorem enters_7 : enters Tryz.prog 7 = true := by kernel_rfl
@[simp] theorem enters_8 : enters Tryz.prog 8 = true := by kernel_rfl
@[simp] theorem enters_9 : enters Tryz.prog 9 = true := by kernel_rfl
@[simp] theorem enters_10 : enters Tryz.prog 10 = true := by kernel_rfl
@[simp] theorem enters_11 : enters Tryz.prog 11 = true := by kernel_rfl
@[simp] theorem enters_12 : enters Tryz.prog 12 = true := by kernel_rfl
@[simp] theorem enters_13 : enters Tryz.prog 13 = true := by kernel_rfl
@[simp] theorem enters_14 : enters Tryz.prog 14 = true := by kernel_rfl
@[simp] theorem enters_15 : enters Tryz.prog 15 = true := by kernel_rfl
@[simp] theorem enters_16 : enters Tryz.prog 16 = true := by kernel_rfl
@[simp] theorem enters_17 : enters Tryz.prog 17 = true := by kernel_rfl
@[simp] theorem enters_18 : enters Tryz.prog 18 = true := by kernel_rfl
@[simp] theorem enters_19 : enters Tryz.prog 19 = true := by kernel_rfl
@[simp] theorem enters_20 : enters Tryz.prog 20 = true := by kernel_rfl
@[simp] theorem enters_21 : enters Tryz.prog 21 = true := by kernel_rfl
@[simp] theorem enters_22 : enters Tryz.prog 22 = true := by kernel_rfl
@[simp] theorem enters_23 : enters Tryz.prog 23 = true := by kernel_rfl
@[simp] theorem enters_24 : enters Tryz.prog 24 = true := by kernel_rfl
@[simp] theorem enters_25 : enters Tryz.prog 25 = true := by kernel_rfl
@[simp] theorem enters_26 : enters Tryz.prog 26 = true := by kernel_rfl
@[simp] theorem enters_27 : enters Tryz.prog 27 = true := by kernel_rfl
@[simp] theorem enters_28 : enters Tryz.prog 28 = true := by kernel_rfl
@[simp] theorem enters_29 : enters Tryz.prog 29 = true := by kernel_rfl
@[simp] theorem enters_30 : enters Tryz.prog 30 = true := by kernel_rfl
@[simp] theorem enters_31 : enters Tryz.prog 31 = true := by kernel_rfl
@[simp] theorem enters_32 : enters Tryz.prog 32 = true := by kernel_rfl
@[simp] theorem enters_33 : enters Tryz.prog 33 = true := by kernel_rfl
@[simp] theorem enters_34 : enters Tryz.prog 34 = true := by kernel_rfl
@[simp] theorem enters_35 : enters Tryz.prog 35 = true := by kernel_rfl
@[simp] theorem enters_36 : enters Tryz.prog 36 = true := by kernel_rfl
@[simp] theorem enters_37 : enters Tryz.prog 37 = true := by kernel_rfl
@[simp] theorem enters_38 : enters Tryz.prog 38 = true := by kernel_rfl
@[simp] theorem enters_39 : enters Tryz.prog 39 = true := by kernel_rfl
@[simp] theorem enters_40 : enters Tryz.prog 40 = true := by kernel_rfl
@[simp] theorem enters_41 : enters Tryz.prog 41 = true := by kernel_rfl
@[simp] theorem enters_42 : enters Tryz.prog 42 = true := by kernel_rfl
@[simp] theorem enters_43 : enters Tryz.prog 43 = true := by kernel_rfl
@[simp] theorem enters_44 : enters Tryz.prog 44 = true := by kernel_rfl
@[simp] theorem enters_45 : enters Tryz.prog 45 = true := by kernel_rfl
@[simp] theorem enters_46 : enters Tryz.prog 46 = true := by kernel_rfl
@[simp] theorem enters_47 : enters Tryz.prog 47 = true := by kernel_rfl
@[simp] theorem enters_48 : enters Tryz.prog 48 = true := by kernel_rfl
@[simp] theorem enters_49 : enters Tryz.prog 49 = true := by kernel_rfl
@[simp] theorem enters_50 : enters Tryz.prog 50 = true := by kernel_rfl
@[simp] theorem enters_51 : enters Tryz.prog 51 = true := by kernel_rfl
@[simp] theorem enters_54 : enters Tryz.prog 54 = true := by kernel_rfl
@[simp] theorem enters_55 : enters Tryz.prog 55 = true := by kernel_rfl
@[simp] theorem enters_56 : enters Tryz.prog 56 = true := by kernel_rfl
@[simp] theorem enters_57 : enters Tryz.prog 57 = true := by kernel_rfl
@[simp] theorem enters_59 : enters Tryz.prog 59 = true := by kernel_rfl
@[simp] theorem enters_60 : enters Tryz.prog 60 = true := by kernel_rfl
@[simp] theorem enters_61 : enters Tryz.prog 61 = true := by kernel_rfl
@[simp] theorem enters_62 : enters Tryz.prog 62 = true := by kernel_rfl
@[simp] theorem enters_63 : enters Tryz.prog 63 = true := by kernel_rfl
@[simp] theorem enters_64 : enters Tryz.prog 64 = true := by kernel_rfl
@[simp] theorem enters_65 : enters Tryz.prog 65 = true := by kernel_rfl
@[simp] theorem enters_66 : enters Tryz.prog 66 = true := by kernel_rfl
@[simp] theorem enters_67 : enters Tryz.prog 67 = true := by kernel_rfl
@[simp] theorem enters_68 : enters Tryz.prog 68 = true := by kernel_rfl
@[simp] theorem enters_69 : enters Tryz.prog 69 = true := by kernel_rfl
@[simp] theorem enters_70 : enters Tryz.prog 70 = true := by kernel_rfl
@[simp] theorem enters_71 : enters Tryz.prog 71 = true := by kernel_rfl
@[simp] theorem enters_72 : enters Tryz.prog 72 = true := by kernel_rfl
@[simp] theorem enters_73 : enters Tryz.prog 73 = true := by kernel_rfl
@[simp] theorem enters_74 : enters Tryz.prog 74 = true := by kernel_rfl
@[simp] theorem enters_75 : enters Tryz.prog 75 = true := by kernel_rfl
@[simp] theorem enters_76 : enters Tryz.prog 76 = true := by kernel_rfl
@[simp] theorem enters_77 : enters Tryz.prog 77 = true := by kernel_rfl
@[simp] theorem enters_78 : enters Tryz.prog 78 = true := by kernel_rfl
@[simp] theorem enters_79 : enters Tryz.prog 79 = true := by kernel_rfl
@[simp] theorem enters_80 : enters Tryz.prog 80 = true := by kernel_rfl
@[simp] theorem enters_81 : enters Tryz.prog 81 = true := by kernel_rfl
@[simp] theorem enters_82 : enters Tryz.prog 82 = true := by kernel_rfl
@[simp] theorem enters_86 : enters Tryz.prog 86 = true := by kernel_rfl
@[simp] theorem enters_87 : enters Tryz.prog 87 = true := by kernel_rfl
@[simp] theorem enters_91 : enters Tryz.prog 91 = true := by kernel_rfl
@[simp] theorem enters_92 : enters Tryz.prog 92 = true := by kernel_rfl
@[simp] theorem enters_93 : enters Tryz.prog 93 = true := by kernel_rfl
@[simp] theorem enters_94 : enters Tryz.prog 94 = true := by kernel_rfl
@[simp] theorem enters_95 : enters Tryz.prog 95 = true := by kernel_rfl
@[simp] theorem enters_96 : enters Tryz.prog 96 = true := by kernel_rfl
@[simp] theorem enters_97 : enters Tryz.prog 97 = true := by kernel_rfl
@[simp] theorem enters_98 : enters Tryz.prog 98 = true := by kernel_rfl
@[simp] theorem enters_99 : enters Tryz.prog 99 = true := by kernel_rfl
@[simp] theorem enters_100 : enters Tryz.prog 100 = true := by kernel_rfl
@[simp] theorem enters_101 : enters Tryz.prog 101 = true := by kernel_rfl
@[simp] theorem enters_102 : enters Tryz.prog 102 = true := by kernel_rfl
@[simp] theorem enters_103 : enters Tryz.prog 103 = true := by kernel_rfl
@[simp] theorem enters_104 : enters Tryz.prog 104 = true := by kernel_rfl
@[simp] theorem enters_105 : enters Tryz.prog 105 = true := by kernel_rfl
@[simp] theorem enters_106 : enters Tryz.prog 106 = true := by kernel_rfl
@[simp] theorem enters_107 : enters Tryz.prog 107 = true := by kernel_rfl
@[simp] theorem enters_108 : enters Tryz.prog 108 = true := by kernel_rfl
@[simp] theorem enters_109 : enters Tryz.prog 109 = true := by kernel_rfl
@[simp] theorem enters_110 : enters Tryz.prog 110 = true := by kernel_rfl
@[simp] theorem enters_111 : enters Tryz.prog 111 = true := by kernel_rfl
@[simp] theorem enters_112 : enters Tryz.prog 112 = true := by kernel_rfl
@[simp] theorem enters_113 : enters Tryz.prog 113 = true := by kernel_rfl
@[simp] theorem enters_114 : enters Tryz.prog 114 = true := by kernel_rfl
@[simp] theorem enters_115 : enters Tryz.prog 115 = true := by kernel_rfl
@[simp] theorem enters_116 : enters Tryz.prog 116 = true := by kernel_rfl
@[simp] theorem enters_117 : enters Tryz.prog 117 = true := by kernel_rfl
@[simp] theorem enters_118 : enters Tryz.prog 118 = true := by kernel_rfl
@[simp] theorem enters_119 : enters Tryz.prog 119 = true := by kernel_rfl
@[simp] theorem enters_120 : enters Tryz.prog 120 = true := by kernel_rfl
@[simp] theorem enters_121 : enters Tryz.prog 121 = true := by kernel_rfl
@[simp] theorem enters_122 : enters Tryz.prog 122 = true := by kernel_rfl
@[simp] theorem enters_123 : enters Tryz.prog 123 = true := by kernel_rfl
@[simp] theorem enters_124 : enters Tryz.prog 124 = true := by kernel_rfl
@[simp] theorem enters_125 : enters Tryz.prog 125 = true := by kernel_rfl
@[simp] theorem enters_126 : enters Tryz.prog 126 = true := by kernel_rfl
@[simp] theorem enters_127 : enters Tryz.prog 127 = true := by kernel_rfl
@[simp] theorem enters_128 : enters Tryz.prog 128 = true := by kernel_rfl
@[simp] theorem enters_129 : enters Tryz.prog 129 = true := by kernel_rfl
@[simp] theorem enters_130 : enters Tryz.prog 130 = true := by kernel_rfl
@[simp] theorem enters_131 : enters Tryz.prog 131 = true := by kernel_rfl
@[simp] theorem enters_132 : enters Tryz.prog 132 = true := by kernel_rfl
@[simp] theorem enters_134 : enters Tryz.prog 134 = true := by kernel_rfl
@[simp] theorem enters_135 : enters Tryz.prog 135 = true := by kernel_rfl
@[simp] theorem enters_136 : enters Tryz.prog 136 = true := by kernel_rfl
@[simp] theorem enters_137 : enters Tryz.prog 137 = true := by kernel_rfl
@[simp] theorem enters_138 : enters Tryz.prog 138 = true := by kernel_rfl
@[simp] theorem enters_139 : enters Tryz.prog 139 = true := by kernel_rfl
@[simp] theorem enters_140 : enters Tryz.prog 140 = true := by kernel_rfl
@[simp] theorem enters_141 : enters Tryz.prog 141 = true := by kernel_rfl
@[simp] theorem enters_142 : enters Tryz.prog 142 = true := by kernel_rfl
@[simp] theorem enters_143 : enters Tryz.prog 143 = true := by kernel_rfl
@[simp] theorem enters_144 : enters Tryz.prog 144 = true := by kernel_rfl
@[simp] theorem enters_145 : enters Tryz.prog 145 = true := by kernel_rfl
@[simp] theorem enters_146 : enters Tryz.prog 146 = true := by kernel_rfl
@[simp] theorem enters_147 : enters Tryz.prog 147 = true := by kernel_rfl
@[simp] theorem enters_148 : enters Tryz.prog 148 = true := by kernel_rfl
@[simp] theorem enters_149 : enters Tryz.prog 149 = true := by kernel_rfl
@[simp] theorem enters_150 : enters Tryz.prog 150 = true := by kernel_rfl
@[simp] theorem enters_151 : enters Tryz.prog 151 = true := by kernel_rfl
@[simp] theorem enters_152 : enters Tryz.prog 152 = true := by kernel_rfl
@[simp] theorem enters_153 : enters Tryz.prog 153 = true := by kernel_rfl
@[simp] theorem enters_154 : enters Tryz.prog 154 = true := by kernel_rfl
@[simp] theorem enters_155 : enters Tryz.prog 155 = true := by kernel_rfl
@[simp] theorem enters_156 : enters Tryz.prog 156 = true := by kernel_rfl
@[simp] theorem enters_157 : enters Tryz.prog 157 = true := by kernel_rfl
@[simp] theorem enters_158 : enters Tryz.prog 158 = true := by kernel_rfl
@[simp] theorem enters_159 : enters Tryz.prog 159 = true := by kernel_rfl
@[simp] theorem enters_160 : enters Tryz.prog 160 = true := by kernel_rfl
@[simp] theorem enters_161 : enters Tryz.prog 161 = true := by kernel_rfl
@[simp] theorem enters_162 : enters Tryz.prog 162 = true := by kernel_rfl
@[simp] theorem enters_163 : enters Tryz.prog 163 = true := by kernel_rfl
@[simp] theorem enters_165 : enters Tryz.prog 165 = true := by kernel_rfl
@[simp] theorem enters_166 : enters Tryz.prog 166 = true := by kernel_rfl
@[simp] theorem enters_167 : enters Tryz.prog 167 = true := by kernel_rfl
@[simp] theorem enters_168 : enters Tryz.prog 168 = true := by kernel_rfl
@[simp] theorem enters_169 : enters Tryz.prog 169 = true := by kernel_rfl
@[simp] theorem enters_170 : enters Tryz.prog 170 = true := by kernel_rfl
@[simp] theorem enters_171 : enters Tryz.prog 171 = true := by kernel_rfl
@[simp] theorem enters_172 : enters Tryz.prog 172 = true := by kernel_rfl
@[simp] theorem enters_173 : enters Tryz.prog 173 = true := by kernel_rfl
@[simp] theorem enters_174 : enters Tryz.prog 174 = true := by kernel_rfl
@[simp] theorem enters_175 : enters Tryz.prog 175 = true := by kernel_rfl
@[simp] theorem enters_176 : enters Tryz.prog 176 = true := by kernel_rfl
@[simp] theorem enters_182 : enters Tryz.prog 182 = true := by kernel_rfl
@[simp] theorem enters_183 : enters Tryz.prog 183 = true := by kernel_rfl
@[simp] theorem enters_184 : enters Tryz.prog 184 = true := by kernel_rfl
@[simp] theorem enters_186 : enters Tryz.prog 186 = true := by kernel_rfl
@[simp] theorem enters_187 : enters Tryz.prog 187 = true := by kernel_rfl
@[simp] theorem enters_188 : enters Tryz.prog 188 = true := by kernel_rfl
@[simp] theorem enters_189 : enters Tryz.prog 189 = true := by kernel_rfl
@[simp] theorem enters_191 : enters Tryz.prog 191 = true := by kernel_rfl
@[simp] theorem enters_192 : enters Tryz.prog 192 = true := by kernel_rfl
@[simp] theorem enters_193 : enters Tryz.prog 193 = true := by kernel_rfl
@[simp] theorem enters_194 : enters Tryz.prog 194 = true := by kernel_rfl
@[simp] theorem enters_195 : enters Tryz.prog 195 = true := by kernel_rfl
@[simp] theorem enters_196 : enters Tryz.prog 196 = true := by kernel_rfl
@[simp] theorem enters_197 : enters Tryz.prog 197 = true := by kernel_rfl
@[simp] theorem enters_198 : enters Tryz.prog 198 = true := by kernel_rfl
@[simp] theorem enters_199 : enters Tryz.prog 199 = true := by kernel_rfl
@[simp] theorem enters_201 : enters Tryz.prog 201 = true := by kernel_rfl
@[simp] theorem enters_205 : enters Tryz.prog 205 = true := by kernel_rfl
@[simp] theorem enters_206 : enters Tryz.prog 206 = true := by kernel_rfl
@[simp] theorem enters_207 : enters Tryz.prog 207 = true := by kernel_rfl
@[simp] theorem enters_210 : enters Tryz.prog 210 = true := by kernel_rfl
end Go.Ab

namespace Go.Ab
open Go.Proofs
structure GWay where
  Dir : Int
  To : Int
  When : Int
  Else : Int
  deriving DecidableEq
def GWay.enc (x : GWay) : List D := [D.v (.int .i64 x.Dir), D.v (.int .i64 x.To), D.v (.int .i64 x.When), D.v (.int .i64 x.Else)]
@[simp] theorem GWay.enc_length (x : GWay) : x.enc.length = 4 := .trans rfl rfl
@[simp] theorem GWay.encg_0 (x : GWay) (h : 0 < x.enc.length) : x.enc[0] = D.v (.int .i64 x.Dir) := .trans rfl rfl
@[simp] theorem GWay.encg_1 (x : GWay) (h : 1 < x.enc.length) : x.enc[1] = D.v (.int .i64 x.To) := .trans rfl rfl
@[simp] theorem GWay.encg_2 (x : GWay) (h : 2 < x.enc.length) : x.enc[2] = D.v (.int .i64 x.When) := .trans rfl rfl
@[simp] theorem GWay.encg_3 (x : GWay) (h : 3 < x.enc.length) : x.enc[3] = D.v (.int .i64 x.Else) := .trans rfl rfl
def GWay.zero : GWay := ⟨0, 0, 0, 0⟩
@[simp] theorem GWay.getZ (o : Option GWay) : (o.map GWay.enc).getD [D.v (.int .i64 0), D.v (.int .i64 0), D.v (.int .i64 0), D.v (.int .i64 0)] = (o.getD GWay.zero).enc := by cases o <;> rfl
@[simp] theorem GWay.enc_all (x : GWay) : x.enc.take 4 = x.enc := .trans rfl rfl
def GWay.wf (x : GWay) : Prop := inR .i64 x.Dir ∧ inR .i64 x.To ∧ inR .i64 x.When ∧ inR .i64 x.Else
theorem tyK_80 : tyK Tryz.prog 80 = .st [3, 3, 3, 3] := by kernel_rfl
theorem tyK_3 : tyK Tryz.prog 3 = .int .i64 := by kernel_rfl
theorem GWay.of {ys : List D} (h : HasT Tryz.prog 80 ys) : ∃ x : GWay, ys = x.enc ∧ x.wf := by
  obtain ⟨_, _, rfl, t0, _, _, rfl, t1, _, _, rfl, t2, _, _, rfl, t3, rfl⟩ := h.st_inv tyK_80
  obtain ⟨a0, rfl, w0⟩ := t0.int_inv tyK_3
  obtain ⟨a1, rfl, w1⟩ := t1.int_inv tyK_3
  obtain ⟨a2, rfl, w2⟩ := t2.int_inv tyK_3
  obtain ⟨a3, rfl, w3⟩ := t3.int_inv tyK_3
  exact ⟨⟨a0, a1, a2, a3⟩, rfl, w0, w1, w2, w3⟩
structure GThing where
  Title : Int
  Text : Int
  Parent : Int
  Flags : Int
  Room : Bool
  Props : (List Int)
  Words : (List ByteArray)
  Adjs : (List ByteArray)
  Ways : (List GWay)
  deriving DecidableEq
def GThing.enc (x : GThing) : List D := [D.v (.int .i64 x.Title), D.v (.int .i64 x.Text), D.v (.int .i64 x.Parent), D.v (.int .i64 x.Flags), D.v (.bool x.Room), D.sl (encI x.Props), D.sl (encS x.Words), D.sl (encS x.Adjs), D.sl (x.Ways.map GWay.enc)]
@[simp] theorem GThing.enc_length (x : GThing) : x.enc.length = 9 := .trans rfl rfl
@[simp] theorem GThing.encg_0 (x : GThing) (h : 0 < x.enc.length) : x.enc[0] = D.v (.int .i64 x.Title) := .trans rfl rfl
@[simp] theorem GThing.encg_1 (x : GThing) (h : 1 < x.enc.length) : x.enc[1] = D.v (.int .i64 x.Text) := .trans rfl rfl
@[simp] theorem GThing.encg_2 (x : GThing) (h : 2 < x.enc.length) : x.enc[2] = D.v (.int .i64 x.Parent) := .trans rfl rfl
@[simp] theorem GThing.encg_3 (x : GThing) (h : 3 < x.enc.length) : x.enc[3] = D.v (.int .i64 x.Flags) := .trans rfl rfl
@[simp] theorem GThing.encg_4 (x : GThing) (h : 4 < x.enc.length) : x.enc[4] = D.v (.bool x.Room) := .trans rfl rfl
@[simp] theorem GThing.encg_5 (x : GThing) (h : 5 < x.enc.length) : x.enc[5] = D.sl (encI x.Props) := .trans rfl rfl
@[simp] theorem GThing.encg_6 (x : GThing) (h : 6 < x.enc.length) : x.enc[6] = D.sl (encS x.Words) := .trans rfl rfl
@[simp] theorem GThing.encg_7 (x : GThing) (h : 7 < x.enc.length) : x.enc[7] = D.sl (encS x.Adjs) := .trans rfl rfl
@[simp] theorem GThing.encg_8 (x : GThing) (h : 8 < x.enc.length) : x.enc[8] = D.sl (x.Ways.map GWay.enc) := .trans rfl rfl
def GThing.zero : GThing := ⟨0, 0, 0, 0, false, [], [], [], []⟩
@[simp] theorem GThing.getZ (o : Option GThing) : (o.map GThing.enc).getD [D.v (.int .i64 0), D.v (.int .i64 0), D.v (.int .i64 0), D.v (.int .i64 0), D.v (.bool false), D.sl [], D.sl [], D.sl [], D.sl []] = (o.getD GThing.zero).enc := by cases o <;> rfl
@[simp] theorem GThing.enc_all (x : GThing) : x.enc.take 9 = x.enc := .trans rfl rfl
@[simp] theorem GThing.enc_allv (x : GThing) : List.take 9 (x.enc.map V.d) = x.enc.map V.d := .trans rfl rfl
def GThing.wf (x : GThing) : Prop := inR .i64 x.Title ∧ inR .i64 x.Text ∧ inR .i64 x.Parent ∧ inR .i64 x.Flags ∧ x.Props.length * 8 ≤ 140737488351232 ∧ (∀ y0 : Int, y0 ∈ x.Props → inR .i64 y0) ∧ x.Words.length * 16 ≤ 140737488351232 ∧ (∀ y0 : ByteArray, y0 ∈ x.Words → y0.size ≤ 140737488351232) ∧ x.Adjs.length * 16 ≤ 140737488351232 ∧ (∀ y0 : ByteArray, y0 ∈ x.Adjs → y0.size ≤ 140737488351232) ∧ x.Ways.length * 32 ≤ 140737488351232 ∧ (∀ y0 : GWay, y0 ∈ x.Ways → y0.wf)
theorem GThing.wl_Props {x : GThing} (h : x.wf) : x.Props.length * 8 ≤ 140737488351232 := h.2.2.2.2.1
theorem GThing.wl_Words {x : GThing} (h : x.wf) : x.Words.length * 16 ≤ 140737488351232 := h.2.2.2.2.2.2.1
theorem GThing.wf_Words {x : GThing} (h : x.wf) : (∀ y0 : ByteArray, y0 ∈ x.Words → y0.size ≤ 140737488351232) := h.2.2.2.2.2.2.2.1
theorem GThing.wl_Adjs {x : GThing} (h : x.wf) : x.Adjs.length * 16 ≤ 140737488351232 := h.2.2.2.2.2.2.2.2.1
theorem GThing.wf_Adjs {x : GThing} (h : x.wf) : (∀ y0 : ByteArray, y0 ∈ x.Adjs → y0.size ≤ 140737488351232) := h.2.2.2.2.2.2.2.2.2.1
theorem GThing.wl_Ways {x : GThing} (h : x.wf) : x.Ways.length * 32 ≤ 140737488351232 := h.2.2.2.2.2.2.2.2.2.2.1
theorem GThing.wf_Ways {x : GThing} (h : x.wf) : (∀ y0 : GWay, y0 ∈ x.Ways → y0.wf) := h.2.2.2.2.2.2.2.2.2.2.2
theorem tyK_42 : tyK Tryz.prog 42 = .st [3, 3, 3, 3, 4, 23, 22, 22, 40] := by kernel_rfl
theorem tyK_4 : tyK Tryz.prog 4 = .bool := by kernel_rfl
theorem tyK_23 : tyK Tryz.prog 23 = .sl 3 8 := by kernel_rfl
theorem tyK_22 : tyK Tryz.prog 22 = .sl 9 16 := by kernel_rfl
theorem tyK_9 : tyK Tryz.prog 9 = .str := by kernel_rfl
theorem tyK_40 : tyK Tryz.prog 40 = .sl 80 32 := by kernel_rfl
theorem GThing.of {ys : List D} (h : HasT Tryz.prog 42 ys) : ∃ x : GThing, ys = x.enc ∧ x.wf := by
  obtain ⟨_, _, rfl, t0, _, _, rfl, t1, _, _, rfl, t2, _, _, rfl, t3, _, _, rfl, t4, _, _, rfl, t5, _, _, rfl, t6, _, _, rfl, t7, _, _, rfl, t8, rfl⟩ := h.st_inv tyK_42
  obtain ⟨a0, rfl, w0⟩ := t0.int_inv tyK_3
  obtain ⟨a1, rfl, w1⟩ := t1.int_inv tyK_3
  obtain ⟨a2, rfl, w2⟩ := t2.int_inv tyK_3
  obtain ⟨a3, rfl, w3⟩ := t3.int_inv tyK_3
  obtain ⟨a4, rfl⟩ := t4.bool_inv tyK_4
  obtain ⟨a5, rfl, l5, w5⟩ := t5.lst tyK_23 (fun h => h.int_inv tyK_3)
  obtain ⟨a6, rfl, l6, w6⟩ := t6.lst tyK_22 (fun h => h.str_inv tyK_9)
  obtain ⟨a7, rfl, l7, w7⟩ := t7.lst tyK_22 (fun h => h.str_inv tyK_9)
  obtain ⟨a8, rfl, l8, w8⟩ := t8.lst tyK_40 GWay.of
  exact ⟨⟨a0, a1, a2, a3, a4, a5, a6, a7, a8⟩, rfl, w0, w1, w2, w3, l5, w5, l6, w6, l7, w7, l8, w8⟩
structure GSlot where
  Kind : Int
  Words : (List ByteArray)
  deriving DecidableEq
def GSlot.enc (x : GSlot) : List D := [D.v (.int .i64 x.Kind), D.sl (encS x.Words)]
@[simp] theorem GSlot.enc_length (x : GSlot) : x.enc.length = 2 := .trans rfl rfl
@[simp] theorem GSlot.encg_0 (x : GSlot) (h : 0 < x.enc.length) : x.enc[0] = D.v (.int .i64 x.Kind) := .trans rfl rfl
@[simp] theorem GSlot.encg_1 (x : GSlot) (h : 1 < x.enc.length) : x.enc[1] = D.sl (encS x.Words) := .trans rfl rfl
def GSlot.zero : GSlot := ⟨0, []⟩
@[simp] theorem GSlot.getZ (o : Option GSlot) : (o.map GSlot.enc).getD [D.v (.int .i64 0), D.sl []] = (o.getD GSlot.zero).enc := by cases o <;> rfl
@[simp] theorem GSlot.enc_all (x : GSlot) : x.enc.take 2 = x.enc := .trans rfl rfl
def GSlot.wf (x : GSlot) : Prop := inR .i64 x.Kind ∧ x.Words.length * 16 ≤ 140737488351232 ∧ (∀ y0 : ByteArray, y0 ∈ x.Words → y0.size ≤ 140737488351232)
theorem GSlot.wl_Words {x : GSlot} (h : x.wf) : x.Words.length * 16 ≤ 140737488351232 := h.2.1
theorem GSlot.wf_Words {x : GSlot} (h : x.wf) : (∀ y0 : ByteArray, y0 ∈ x.Words → y0.size ≤ 140737488351232) := h.2.2
theorem tyK_44 : tyK Tryz.prog 44 = .st [3, 22] := by kernel_rfl
theorem GSlot.of {ys : List D} (h : HasT Tryz.prog 44 ys) : ∃ x : GSlot, ys = x.enc ∧ x.wf := by
  obtain ⟨_, _, rfl, t0, _, _, rfl, t1, rfl⟩ := h.st_inv tyK_44
  obtain ⟨a0, rfl, w0⟩ := t0.int_inv tyK_3
  obtain ⟨a1, rfl, l1, w1⟩ := t1.lst tyK_22 (fun h => h.str_inv tyK_9)
  exact ⟨⟨a0, a1⟩, rfl, w0, l1, w1⟩
structure GAct where
  Meta : Bool
  Lines : (List (List GSlot))
  deriving DecidableEq
def GAct.enc (x : GAct) : List D := [D.v (.bool x.Meta), D.sl (encSl (List.map GSlot.enc) x.Lines)]
@[simp] theorem GAct.enc_length (x : GAct) : x.enc.length = 2 := .trans rfl rfl
@[simp] theorem GAct.encg_1 (x : GAct) (h : 1 < x.enc.length) : x.enc[1] = D.sl (encSl (List.map GSlot.enc) x.Lines) := .trans rfl rfl
def GAct.zero : GAct := ⟨false, []⟩
@[simp] theorem GAct.enc_all (x : GAct) : x.enc.take 2 = x.enc := .trans rfl rfl
@[simp] theorem GAct.enc_allv (x : GAct) : List.take 2 (x.enc.map V.d) = x.enc.map V.d := .trans rfl rfl
def GAct.wf (x : GAct) : Prop := x.Lines.length * 24 ≤ 140737488351232 ∧ (∀ y0 : (List GSlot), y0 ∈ x.Lines → y0.length * 32 ≤ 140737488351232 ∧ (∀ y1 : GSlot, y1 ∈ y0 → y1.wf))
theorem GAct.wl_Lines {x : GAct} (h : x.wf) : x.Lines.length * 24 ≤ 140737488351232 := h.1
theorem GAct.wf_Lines {x : GAct} (h : x.wf) : (∀ y0 : (List GSlot), y0 ∈ x.Lines → y0.length * 32 ≤ 140737488351232 ∧ (∀ y1 : GSlot, y1 ∈ y0 → y1.wf)) := h.2
theorem tyK_48 : tyK Tryz.prog 48 = .st [4, 46] := by kernel_rfl
theorem tyK_46 : tyK Tryz.prog 46 = .sl 45 24 := by kernel_rfl
theorem tyK_45 : tyK Tryz.prog 45 = .sl 44 32 := by kernel_rfl
theorem GAct.of {ys : List D} (h : HasT Tryz.prog 48 ys) : ∃ x : GAct, ys = x.enc ∧ x.wf := by
  obtain ⟨_, _, rfl, t0, _, _, rfl, t1, rfl⟩ := h.st_inv tyK_48
  obtain ⟨a0, rfl⟩ := t0.bool_inv tyK_4
  obtain ⟨a1, rfl, l1, w1⟩ := t1.lst tyK_46 (fun h => h.lst tyK_45 GSlot.of)
  exact ⟨⟨a0, a1⟩, rfl, l1, w1⟩
structure GDeed where
  Verb : Int
  Phase : Int
  Noun : Int
  Second : Int
  When : Int
  Body : Int
  deriving DecidableEq
def GDeed.enc (x : GDeed) : List D := [D.v (.int .i64 x.Verb), D.v (.int .i64 x.Phase), D.v (.int .i64 x.Noun), D.v (.int .i64 x.Second), D.v (.int .i64 x.When), D.v (.int .i64 x.Body)]
@[simp] theorem GDeed.enc_length (x : GDeed) : x.enc.length = 6 := .trans rfl rfl
@[simp] theorem GDeed.encg_0 (x : GDeed) (h : 0 < x.enc.length) : x.enc[0] = D.v (.int .i64 x.Verb) := .trans rfl rfl
@[simp] theorem GDeed.encg_1 (x : GDeed) (h : 1 < x.enc.length) : x.enc[1] = D.v (.int .i64 x.Phase) := .trans rfl rfl
@[simp] theorem GDeed.encg_2 (x : GDeed) (h : 2 < x.enc.length) : x.enc[2] = D.v (.int .i64 x.Noun) := .trans rfl rfl
@[simp] theorem GDeed.encg_3 (x : GDeed) (h : 3 < x.enc.length) : x.enc[3] = D.v (.int .i64 x.Second) := .trans rfl rfl
@[simp] theorem GDeed.encg_4 (x : GDeed) (h : 4 < x.enc.length) : x.enc[4] = D.v (.int .i64 x.When) := .trans rfl rfl
@[simp] theorem GDeed.encg_5 (x : GDeed) (h : 5 < x.enc.length) : x.enc[5] = D.v (.int .i64 x.Body) := .trans rfl rfl
def GDeed.zero : GDeed := ⟨0, 0, 0, 0, 0, 0⟩
@[simp] theorem GDeed.enc_all (x : GDeed) : x.enc.take 6 = x.enc := .trans rfl rfl
@[simp] theorem GDeed.enc_allv (x : GDeed) : List.take 6 (x.enc.map V.d) = x.enc.map V.d := .trans rfl rfl
def GDeed.wf (x : GDeed) : Prop := inR .i64 x.Verb ∧ inR .i64 x.Phase ∧ inR .i64 x.Noun ∧ inR .i64 x.Second ∧ inR .i64 x.When ∧ inR .i64 x.Body
theorem tyK_50 : tyK Tryz.prog 50 = .st [3, 3, 3, 3, 3, 3] := by kernel_rfl
theorem GDeed.of {ys : List D} (h : HasT Tryz.prog 50 ys) : ∃ x : GDeed, ys = x.enc ∧ x.wf := by
  obtain ⟨_, _, rfl, t0, _, _, rfl, t1, _, _, rfl, t2, _, _, rfl, t3, _, _, rfl, t4, _, _, rfl, t5, rfl⟩ := h.st_inv tyK_50
  obtain ⟨a0, rfl, w0⟩ := t0.int_inv tyK_3
  obtain ⟨a1, rfl, w1⟩ := t1.int_inv tyK_3
  obtain ⟨a2, rfl, w2⟩ := t2.int_inv tyK_3
  obtain ⟨a3, rfl, w3⟩ := t3.int_inv tyK_3
  obtain ⟨a4, rfl, w4⟩ := t4.int_inv tyK_3
  obtain ⟨a5, rfl, w5⟩ := t5.int_inv tyK_3
  exact ⟨⟨a0, a1, a2, a3, a4, a5⟩, rfl, w0, w1, w2, w3, w4, w5⟩
structure GTables where
  Title : Int
  By : Int
  Release : Int
  Max : Int
  Texts : (List ByteArray)
  Flags : Int
  Props : (List Int)
  Globals : (List Int)
  Things : (List GThing)
  Acts : (List GAct)
  Deeds : (List GDeed)
  Funcs : (List Int)
  Daemons : (List Int)
  Params : (List Int)
  Locals : (List Int)
  deriving DecidableEq
def GTables.enc (x : GTables) : List D := [D.v (.int .i64 x.Title), D.v (.int .i64 x.By), D.v (.int .i64 x.Release), D.v (.int .i64 x.Max), D.sl (encS x.Texts), D.v (.int .i64 x.Flags), D.sl (encI x.Props), D.sl (encI x.Globals), D.sl (x.Things.map GThing.enc), D.sl (x.Acts.map GAct.enc), D.sl (x.Deeds.map GDeed.enc), D.sl (encI x.Funcs), D.sl (encI x.Daemons), D.sl (encI x.Params), D.sl (encI x.Locals)]
@[simp] theorem GTables.enc_length (x : GTables) : x.enc.length = 15 := .trans rfl rfl
@[simp] theorem GTables.encg_0 (x : GTables) (h : 0 < x.enc.length) : x.enc[0] = D.v (.int .i64 x.Title) := .trans rfl rfl
@[simp] theorem GTables.encg_1 (x : GTables) (h : 1 < x.enc.length) : x.enc[1] = D.v (.int .i64 x.By) := .trans rfl rfl
@[simp] theorem GTables.encg_2 (x : GTables) (h : 2 < x.enc.length) : x.enc[2] = D.v (.int .i64 x.Release) := .trans rfl rfl
@[simp] theorem GTables.encg_3 (x : GTables) (h : 3 < x.enc.length) : x.enc[3] = D.v (.int .i64 x.Max) := .trans rfl rfl
@[simp] theorem GTables.encg_4 (x : GTables) (h : 4 < x.enc.length) : x.enc[4] = D.sl (encS x.Texts) := .trans rfl rfl
@[simp] theorem GTables.encg_5 (x : GTables) (h : 5 < x.enc.length) : x.enc[5] = D.v (.int .i64 x.Flags) := .trans rfl rfl
@[simp] theorem GTables.encg_6 (x : GTables) (h : 6 < x.enc.length) : x.enc[6] = D.sl (encI x.Props) := .trans rfl rfl
@[simp] theorem GTables.encg_7 (x : GTables) (h : 7 < x.enc.length) : x.enc[7] = D.sl (encI x.Globals) := .trans rfl rfl
@[simp] theorem GTables.encg_8 (x : GTables) (h : 8 < x.enc.length) : x.enc[8] = D.sl (x.Things.map GThing.enc) := .trans rfl rfl
@[simp] theorem GTables.encg_9 (x : GTables) (h : 9 < x.enc.length) : x.enc[9] = D.sl (x.Acts.map GAct.enc) := .trans rfl rfl
@[simp] theorem GTables.encg_10 (x : GTables) (h : 10 < x.enc.length) : x.enc[10] = D.sl (x.Deeds.map GDeed.enc) := .trans rfl rfl
@[simp] theorem GTables.encg_11 (x : GTables) (h : 11 < x.enc.length) : x.enc[11] = D.sl (encI x.Funcs) := .trans rfl rfl
@[simp] theorem GTables.encg_12 (x : GTables) (h : 12 < x.enc.length) : x.enc[12] = D.sl (encI x.Daemons) := .trans rfl rfl
@[simp] theorem GTables.encg_13 (x : GTables) (h : 13 < x.enc.length) : x.enc[13] = D.sl (encI x.Params) := .trans rfl rfl
@[simp] theorem GTables.encg_14 (x : GTables) (h : 14 < x.enc.length) : x.enc[14] = D.sl (encI x.Locals) := .trans rfl rfl
def GTables.zero : GTables := ⟨0, 0, 0, 0, [], 0, [], [], [], [], [], [], [], [], []⟩
@[simp] theorem GTables.enc_all (x : GTables) : x.enc.take 15 = x.enc := .trans rfl rfl
@[simp] theorem GTables.enc_allv (x : GTables) : List.take 15 (x.enc.map V.d) = x.enc.map V.d := .trans rfl rfl
def GTables.wf (x : GTables) : Prop := inR .i64 x.Title ∧ inR .i64 x.By ∧ inR .i64 x.Release ∧ inR .i64 x.Max ∧ x.Texts.length * 16 ≤ 140737488351232 ∧ (∀ y0 : ByteArray, y0 ∈ x.Texts → y0.size ≤ 140737488351232) ∧ inR .i64 x.Flags ∧ x.Props.length * 8 ≤ 140737488351232 ∧ (∀ y0 : Int, y0 ∈ x.Props → inR .i64 y0) ∧ x.Globals.length * 8 ≤ 140737488351232 ∧ (∀ y0 : Int, y0 ∈ x.Globals → inR .i64 y0) ∧ x.Things.length * 136 ≤ 140737488351232 ∧ (∀ y0 : GThing, y0 ∈ x.Things → y0.wf) ∧ x.Acts.length * 32 ≤ 140737488351232 ∧ (∀ y0 : GAct, y0 ∈ x.Acts → y0.wf) ∧ x.Deeds.length * 48 ≤ 140737488351232 ∧ (∀ y0 : GDeed, y0 ∈ x.Deeds → y0.wf) ∧ x.Funcs.length * 8 ≤ 140737488351232 ∧ (∀ y0 : Int, y0 ∈ x.Funcs → inR .i64 y0) ∧ x.Daemons.length * 8 ≤ 140737488351232 ∧ (∀ y0 : Int, y0 ∈ x.Daemons → inR .i64 y0) ∧ x.Params.length * 8 ≤ 140737488351232 ∧ (∀ y0 : Int, y0 ∈ x.Params → inR .i64 y0) ∧ x.Locals.length * 8 ≤ 140737488351232 ∧ (∀ y0 : Int, y0 ∈ x.Locals → inR .i64 y0)
theorem GTables.wl_Texts {x : GTables} (h : x.wf) : x.Texts.length * 16 ≤ 140737488351232 := h.2.2.2.2.1
theorem GTables.wf_Texts {x : GTables} (h : x.wf) : (∀ y0 : ByteArray, y0 ∈ x.Texts → y0.size ≤ 140737488351232) := h.2.2.2.2.2.1
theorem GTables.wl_Props {x : GTables} (h : x.wf) : x.Props.length * 8 ≤ 140737488351232 := h.2.2.2.2.2.2.2.1
theorem GTables.wl_Globals {x : GTables} (h : x.wf) : x.Globals.length * 8 ≤ 140737488351232 := h.2.2.2.2.2.2.2.2.2.1
theorem GTables.wl_Things {x : GTables} (h : x.wf) : x.Things.length * 136 ≤ 140737488351232 := h.2.2.2.2.2.2.2.2.2.2.2.1
theorem GTables.wf_Things {x : GTables} (h : x.wf) : (∀ y0 : GThing, y0 ∈ x.Things → y0.wf) := h.2.2.2.2.2.2.2.2.2.2.2.2.1
theorem GTables.wl_Acts {x : GTables} (h : x.wf) : x.Acts.length * 32 ≤ 140737488351232 := h.2.2.2.2.2.2.2.2.2.2.2.2.2.1
theorem GTables.wf_Acts {x : GTables} (h : x.wf) : (∀ y0 : GAct, y0 ∈ x.Acts → y0.wf) := h.2.2.2.2.2.2.2.2.2.2.2.2.2.2.1
theorem GTables.wl_Deeds {x : GTables} (h : x.wf) : x.Deeds.length * 48 ≤ 140737488351232 := h.2.2.2.2.2.2.2.2.2.2.2.2.2.2.2.1
theorem GTables.wf_Deeds {x : GTables} (h : x.wf) : (∀ y0 : GDeed, y0 ∈ x.Deeds → y0.wf) := h.2.2.2.2.2.2.2.2.2.2.2.2.2.2.2.2.1
theorem GTables.wl_Funcs {x : GTables} (h : x.wf) : x.Funcs.length * 8 ≤ 140737488351232 := h.2.2.2.2.2.2.2.2.2.2.2.2.2.2.2.2.2.1
theorem GTables.wl_Daemons {x : GTables} (h : x.wf) : x.Daemons.length * 8 ≤ 140737488351232 := h.2.2.2.2.2.2.2.2.2.2.2.2.2.2.2.2.2.2.2.1
theorem GTables.wl_Params {x : GTables} (h : x.wf) : x.Params.length * 8 ≤ 140737488351232 := h.2.2.2.2.2.2.2.2.2.2.2.2.2.2.2.2.2.2.2.2.2.1
theorem GTables.wl_Locals {x : GTables} (h : x.wf) : x.Locals.length * 8 ≤ 140737488351232 := h.2.2.2.2.2.2.2.2.2.2.2.2.2.2.2.2.2.2.2.2.2.2.2.1
theorem GTables.wf_Locals {x : GTables} (h : x.wf) : (∀ y0 : Int, y0 ∈ x.Locals → inR .i64 y0) := h.2.2.2.2.2.2.2.2.2.2.2.2.2.2.2.2.2.2.2.2.2.2.2.2
theorem tyK_28 : tyK Tryz.prog 28 = .st [3, 3, 3, 3, 22, 3, 23, 23, 24, 25, 26, 23, 23, 23, 23] := by kernel_rfl
theorem tyK_24 : tyK Tryz.prog 24 = .sl 42 136 := by kernel_rfl
theorem tyK_25 : tyK Tryz.prog 25 = .sl 48 32 := by kernel_rfl
theorem tyK_26 : tyK Tryz.prog 26 = .sl 50 48 := by kernel_rfl
theorem GTables.of {ys : List D} (h : HasT Tryz.prog 28 ys) : ∃ x : GTables, ys = x.enc ∧ x.wf := by
  obtain ⟨_, _, rfl, t0, _, _, rfl, t1, _, _, rfl, t2, _, _, rfl, t3, _, _, rfl, t4, _, _, rfl, t5, _, _, rfl, t6, _, _, rfl, t7, _, _, rfl, t8, _, _, rfl, t9, _, _, rfl, t10, _, _, rfl, t11, _, _, rfl, t12, _, _, rfl, t13, _, _, rfl, t14, rfl⟩ := h.st_inv tyK_28
  obtain ⟨a0, rfl, w0⟩ := t0.int_inv tyK_3
  obtain ⟨a1, rfl, w1⟩ := t1.int_inv tyK_3
  obtain ⟨a2, rfl, w2⟩ := t2.int_inv tyK_3
  obtain ⟨a3, rfl, w3⟩ := t3.int_inv tyK_3
  obtain ⟨a4, rfl, l4, w4⟩ := t4.lst tyK_22 (fun h => h.str_inv tyK_9)
  obtain ⟨a5, rfl, w5⟩ := t5.int_inv tyK_3
  obtain ⟨a6, rfl, l6, w6⟩ := t6.lst tyK_23 (fun h => h.int_inv tyK_3)
  obtain ⟨a7, rfl, l7, w7⟩ := t7.lst tyK_23 (fun h => h.int_inv tyK_3)
  obtain ⟨a8, rfl, l8, w8⟩ := t8.lst tyK_24 GThing.of
  obtain ⟨a9, rfl, l9, w9⟩ := t9.lst tyK_25 GAct.of
  obtain ⟨a10, rfl, l10, w10⟩ := t10.lst tyK_26 GDeed.of
  obtain ⟨a11, rfl, l11, w11⟩ := t11.lst tyK_23 (fun h => h.int_inv tyK_3)
  obtain ⟨a12, rfl, l12, w12⟩ := t12.lst tyK_23 (fun h => h.int_inv tyK_3)
  obtain ⟨a13, rfl, l13, w13⟩ := t13.lst tyK_23 (fun h => h.int_inv tyK_3)
  obtain ⟨a14, rfl, l14, w14⟩ := t14.lst tyK_23 (fun h => h.int_inv tyK_3)
  exact ⟨⟨a0, a1, a2, a3, a4, a5, a6, a7, a8, a9, a10, a11, a12, a13, a14⟩, rfl, w0, w1, w2, w3, l4, w4, w5, l6, w6, l7, w7, l8, w8, l9, w9, l10, w10, l11, w11, l12, w12, l13, w13, l14, w14⟩
inductive GExpr where
  | mk (Kind : Int) (Op : Int) (Num : Int) (Name : ByteArray) (Args : (List GExpr))
def GExpr.Kind : GExpr → Int
  | .mk a0 a1 a2 a3 a4 => a0
def GExpr.Op : GExpr → Int
  | .mk a0 a1 a2 a3 a4 => a1
def GExpr.Num : GExpr → Int
  | .mk a0 a1 a2 a3 a4 => a2
def GExpr.Name : GExpr → ByteArray
  | .mk a0 a1 a2 a3 a4 => a3
def GExpr.Args : GExpr → (List GExpr)
  | .mk a0 a1 a2 a3 a4 => a4
mutual
def GExpr.enc : GExpr → List D
  | .mk a0 a1 a2 a3 a4 => [D.v (.int .i64 a0), D.v (.int .i64 a1), D.v (.int .i64 a2), D.v (.string a3), D.sl (GExpr.encs a4)]
def GExpr.encs : List GExpr → List (List D)
  | [] => []
  | x :: l => x.enc :: GExpr.encs l
end
theorem GExpr.encs_eq : ∀ l : List GExpr, GExpr.encs l = l.map GExpr.enc
  | [] => rfl
  | x :: l => by rw [GExpr.encs, GExpr.encs_eq l]; rfl
theorem GExpr.enc_eq (x : GExpr) : x.enc = [D.v (.int .i64 x.Kind), D.v (.int .i64 x.Op), D.v (.int .i64 x.Num), D.v (.string x.Name), D.sl (x.Args.map GExpr.enc)] := by
  cases x
  simp only [GExpr.enc, GExpr.encs_eq]
  rfl
@[simp] theorem GExpr.enc_length (x : GExpr) : x.enc.length = 5 := by cases x; rfl
@[simp] theorem GExpr.enc_0 (x : GExpr) : x.enc[0]? = some (D.v (.int .i64 x.Kind)) := by rw [GExpr.enc_eq]; rfl
@[simp] theorem GExpr.encg_0 (x : GExpr) (h : 0 < x.enc.length) : x.enc[0] = D.v (.int .i64 x.Kind) := by
  have := GExpr.enc_0 x
  rw [List.getElem?_eq_getElem h] at this
  exact Option.some.inj this
@[simp] theorem GExpr.enc_1 (x : GExpr) : x.enc[1]? = some (D.v (.int .i64 x.Op)) := by rw [GExpr.enc_eq]; rfl
@[simp] theorem GExpr.encg_1 (x : GExpr) (h : 1 < x.enc.length) : x.enc[1] = D.v (.int .i64 x.Op) := by
  have := GExpr.enc_1 x
  rw [List.getElem?_eq_getElem h] at this
  exact Option.some.inj this
@[simp] theorem GExpr.enc_2 (x : GExpr) : x.enc[2]? = some (D.v (.int .i64 x.Num)) := by rw [GExpr.enc_eq]; rfl
@[simp] theorem GExpr.encg_2 (x : GExpr) (h : 2 < x.enc.length) : x.enc[2] = D.v (.int .i64 x.Num) := by
  have := GExpr.enc_2 x
  rw [List.getElem?_eq_getElem h] at this
  exact Option.some.inj this
@[simp] theorem GExpr.enc_3 (x : GExpr) : x.enc[3]? = some (D.v (.string x.Name)) := by rw [GExpr.enc_eq]; rfl
@[simp] theorem GExpr.encg_3 (x : GExpr) (h : 3 < x.enc.length) : x.enc[3] = D.v (.string x.Name) := by
  have := GExpr.enc_3 x
  rw [List.getElem?_eq_getElem h] at this
  exact Option.some.inj this
@[simp] theorem GExpr.enc_4 (x : GExpr) : x.enc[4]? = some (D.sl (x.Args.map GExpr.enc)) := by rw [GExpr.enc_eq]; rfl
@[simp] theorem GExpr.encg_4 (x : GExpr) (h : 4 < x.enc.length) : x.enc[4] = D.sl (x.Args.map GExpr.enc) := by
  have := GExpr.enc_4 x
  rw [List.getElem?_eq_getElem h] at this
  exact Option.some.inj this
def GExpr.zero : GExpr := .mk (0) (0) (0) (⟨#[]⟩) ([])
@[simp] theorem GExpr.getZ (o : Option GExpr) : (o.map GExpr.enc).getD [D.v (.int .i64 0), D.v (.int .i64 0), D.v (.int .i64 0), D.v (.string ⟨#[]⟩), D.sl []] = (o.getD GExpr.zero).enc := by cases o <;> rfl
@[simp] theorem GExpr.dropAllv (x : GExpr) : List.drop 5 (x.enc.map V.d) = [] := by cases x; rfl
@[simp] theorem GExpr.enc_all (x : GExpr) : x.enc.take 5 = x.enc := by cases x; rfl
@[simp] theorem GExpr.enc_allv (x : GExpr) : List.take 5 (x.enc.map V.d) = x.enc.map V.d := by cases x; rfl
mutual
def GExpr.wf : GExpr → Prop
  | .mk a0 a1 a2 a3 a4 => inR .i64 a0 ∧ inR .i64 a1 ∧ inR .i64 a2 ∧ a3.size ≤ 140737488351232 ∧ a4.length * 64 ≤ 140737488351232 ∧ GExpr.wfs a4
def GExpr.wfs : List GExpr → Prop
  | [] => True
  | x :: l => x.wf ∧ GExpr.wfs l
end
theorem GExpr.wfs_iff : ∀ l : List GExpr, GExpr.wfs l ↔ ∀ y ∈ l, y.wf
  | [] => by simp [GExpr.wfs]
  | x :: l => by rw [GExpr.wfs, GExpr.wfs_iff l]; simp
theorem GExpr.wf_iff (x : GExpr) : x.wf ↔ inR .i64 x.Kind ∧ inR .i64 x.Op ∧ inR .i64 x.Num ∧ x.Name.size ≤ 140737488351232 ∧ x.Args.length * 64 ≤ 140737488351232 ∧ (∀ y0 : GExpr, y0 ∈ x.Args → y0.wf) := by
  cases x
  simp only [GExpr.wf, GExpr.wfs_iff]
  rfl
theorem GExpr.wl_Args {x : GExpr} (h : x.wf) : x.Args.length * 64 ≤ 140737488351232 := ((GExpr.wf_iff x).1 h).2.2.2.2.1
theorem GExpr.wf_Args {x : GExpr} (h : x.wf) : (∀ y0 : GExpr, y0 ∈ x.Args → y0.wf) := ((GExpr.wf_iff x).1 h).2.2.2.2.2
theorem tyK_75 : tyK Tryz.prog 75 = .st [3, 3, 3, 9, 51] := by kernel_rfl
theorem tyK_51 : tyK Tryz.prog 51 = .sl 75 64 := by kernel_rfl
theorem GExpr.of' : ∀ (n : Nat) {ys : List D}, SizeOf.sizeOf ys < n → HasT Tryz.prog 75 ys → ∃ x : GExpr, ys = x.enc ∧ x.wf := by
  intro n
  induction n with
  | zero => intro ys h; omega
  | succ n ih =>
  intro ys hsz h
  have h' := HasT.st_inv h tyK_75
  obtain ⟨a0_, r0, hr0, t0, h0⟩ := h'
  obtain ⟨a1_, r1, hr1, t1, h1⟩ := h0
  obtain ⟨a2_, r2, hr2, t2, h2⟩ := h1
  obtain ⟨a3_, r3, hr3, t3, h3⟩ := h2
  obtain ⟨a4_, r4, hr4, t4, h4⟩ := h3
  simp only [HasTs] at h4
  subst h4
  subst hr4
  subst hr3
  subst hr2
  subst hr1
  subst hr0
  obtain ⟨a0_', rfl, a0_w⟩ := HasT.int_inv t0 tyK_3
  obtain ⟨a1_', rfl, a1_w⟩ := HasT.int_inv t1 tyK_3
  obtain ⟨a2_', rfl, a2_w⟩ := HasT.int_inv t2 tyK_3
  obtain ⟨a3_', rfl, a3_w⟩ := HasT.str_inv t3 tyK_9
  obtain ⟨a4_0, rfl, a4_h, a4_l, a4_w⟩ := HasT.sl_inv t4 tyK_51
  obtain ⟨a4_', rfl, a4_a⟩ := map_of (f := GExpr.enc) (p := GExpr.wf) (fun a4_e hx => ih (by have hlt := List.sizeOf_lt_of_mem hx; simp at hsz; omega) (a4_h a4_e hx))
  exact ⟨.mk a0_' a1_' a2_' a3_' a4_', by rw [GExpr.enc_eq]; rfl, by rw [GExpr.wf]; exact ⟨a0_w, a1_w, a2_w, a3_w, (by simpa using a4_w), (GExpr.wfs_iff _).2 a4_a⟩⟩
theorem GExpr.of {ys : List D} (h : HasT Tryz.prog 75 ys) : ∃ x : GExpr, ys = x.enc ∧ x.wf := GExpr.of' _ (Nat.lt_succ_self _) h
inductive GStmt where
  | mk (Kind : Int) (Num : Int) (Name : ByteArray) (Args : (List GExpr)) (Body : (List GStmt)) (Else : (List GStmt))
def GStmt.Kind : GStmt → Int
  | .mk a0 a1 a2 a3 a4 a5 => a0
def GStmt.Num : GStmt → Int
  | .mk a0 a1 a2 a3 a4 a5 => a1
def GStmt.Name : GStmt → ByteArray
  | .mk a0 a1 a2 a3 a4 a5 => a2
def GStmt.Args : GStmt → (List GExpr)
  | .mk a0 a1 a2 a3 a4 a5 => a3
def GStmt.Body : GStmt → (List GStmt)
  | .mk a0 a1 a2 a3 a4 a5 => a4
def GStmt.Else : GStmt → (List GStmt)
  | .mk a0 a1 a2 a3 a4 a5 => a5
mutual
def GStmt.enc : GStmt → List D
  | .mk a0 a1 a2 a3 a4 a5 => [D.v (.int .i64 a0), D.v (.int .i64 a1), D.v (.string a2), D.sl (a3.map GExpr.enc), D.sl (GStmt.encs a4), D.sl (GStmt.encs a5)]
def GStmt.encs : List GStmt → List (List D)
  | [] => []
  | x :: l => x.enc :: GStmt.encs l
end
theorem GStmt.encs_eq : ∀ l : List GStmt, GStmt.encs l = l.map GStmt.enc
  | [] => rfl
  | x :: l => by rw [GStmt.encs, GStmt.encs_eq l]; rfl
theorem GStmt.enc_eq (x : GStmt) : x.enc = [D.v (.int .i64 x.Kind), D.v (.int .i64 x.Num), D.v (.string x.Name), D.sl (x.Args.map GExpr.enc), D.sl (x.Body.map GStmt.enc), D.sl (x.Else.map GStmt.enc)] := by
  cases x
  simp only [GStmt.enc, GStmt.encs_eq]
  rfl
@[simp] theorem GStmt.enc_length (x : GStmt) : x.enc.length = 6 := by cases x; rfl
@[simp] theorem GStmt.enc_0 (x : GStmt) : x.enc[0]? = some (D.v (.int .i64 x.Kind)) := by rw [GStmt.enc_eq]; rfl
@[simp] theorem GStmt.encg_0 (x : GStmt) (h : 0 < x.enc.length) : x.enc[0] = D.v (.int .i64 x.Kind) := by
  have := GStmt.enc_0 x
  rw [List.getElem?_eq_getElem h] at this
  exact Option.some.inj this
@[simp] theorem GStmt.enc_1 (x : GStmt) : x.enc[1]? = some (D.v (.int .i64 x.Num)) := by rw [GStmt.enc_eq]; rfl
@[simp] theorem GStmt.encg_1 (x : GStmt) (h : 1 < x.enc.length) : x.enc[1] = D.v (.int .i64 x.Num) := by
  have := GStmt.enc_1 x
  rw [List.getElem?_eq_getElem h] at this
  exact Option.some.inj this
@[simp] theorem GStmt.enc_2 (x : GStmt) : x.enc[2]? = some (D.v (.string x.Name)) := by rw [GStmt.enc_eq]; rfl
@[simp] theorem GStmt.encg_2 (x : GStmt) (h : 2 < x.enc.length) : x.enc[2] = D.v (.string x.Name) := by
  have := GStmt.enc_2 x
  rw [List.getElem?_eq_getElem h] at this
  exact Option.some.inj this
@[simp] theorem GStmt.enc_3 (x : GStmt) : x.enc[3]? = some (D.sl (x.Args.map GExpr.enc)) := by rw [GStmt.enc_eq]; rfl
@[simp] theorem GStmt.encg_3 (x : GStmt) (h : 3 < x.enc.length) : x.enc[3] = D.sl (x.Args.map GExpr.enc) := by
  have := GStmt.enc_3 x
  rw [List.getElem?_eq_getElem h] at this
  exact Option.some.inj this
@[simp] theorem GStmt.enc_4 (x : GStmt) : x.enc[4]? = some (D.sl (x.Body.map GStmt.enc)) := by rw [GStmt.enc_eq]; rfl
@[simp] theorem GStmt.encg_4 (x : GStmt) (h : 4 < x.enc.length) : x.enc[4] = D.sl (x.Body.map GStmt.enc) := by
  have := GStmt.enc_4 x
  rw [List.getElem?_eq_getElem h] at this
  exact Option.some.inj this
@[simp] theorem GStmt.enc_5 (x : GStmt) : x.enc[5]? = some (D.sl (x.Else.map GStmt.enc)) := by rw [GStmt.enc_eq]; rfl
@[simp] theorem GStmt.encg_5 (x : GStmt) (h : 5 < x.enc.length) : x.enc[5] = D.sl (x.Else.map GStmt.enc) := by
  have := GStmt.enc_5 x
  rw [List.getElem?_eq_getElem h] at this
  exact Option.some.inj this
def GStmt.zero : GStmt := .mk (0) (0) (⟨#[]⟩) ([]) ([]) ([])
@[simp] theorem GStmt.enc_all (x : GStmt) : x.enc.take 6 = x.enc := by cases x; rfl
@[simp] theorem GStmt.enc_allv (x : GStmt) : List.take 6 (x.enc.map V.d) = x.enc.map V.d := by cases x; rfl
mutual
def GStmt.wf : GStmt → Prop
  | .mk a0 a1 a2 a3 a4 a5 => inR .i64 a0 ∧ inR .i64 a1 ∧ a2.size ≤ 140737488351232 ∧ a3.length * 64 ≤ 140737488351232 ∧ (∀ y0 : GExpr, y0 ∈ a3 → y0.wf) ∧ a4.length * 104 ≤ 140737488351232 ∧ GStmt.wfs a4 ∧ a5.length * 104 ≤ 140737488351232 ∧ GStmt.wfs a5
def GStmt.wfs : List GStmt → Prop
  | [] => True
  | x :: l => x.wf ∧ GStmt.wfs l
end
theorem GStmt.wfs_iff : ∀ l : List GStmt, GStmt.wfs l ↔ ∀ y ∈ l, y.wf
  | [] => by simp [GStmt.wfs]
  | x :: l => by rw [GStmt.wfs, GStmt.wfs_iff l]; simp
theorem GStmt.wf_iff (x : GStmt) : x.wf ↔ inR .i64 x.Kind ∧ inR .i64 x.Num ∧ x.Name.size ≤ 140737488351232 ∧ x.Args.length * 64 ≤ 140737488351232 ∧ (∀ y0 : GExpr, y0 ∈ x.Args → y0.wf) ∧ x.Body.length * 104 ≤ 140737488351232 ∧ (∀ y0 : GStmt, y0 ∈ x.Body → y0.wf) ∧ x.Else.length * 104 ≤ 140737488351232 ∧ (∀ y0 : GStmt, y0 ∈ x.Else → y0.wf) := by
  cases x
  simp only [GStmt.wf, GStmt.wfs_iff]
  rfl
theorem GStmt.wf_Kind {x : GStmt} (h : x.wf) : inR .i64 x.Kind := ((GStmt.wf_iff x).1 h).1
theorem GStmt.wf_Num {x : GStmt} (h : x.wf) : inR .i64 x.Num := ((GStmt.wf_iff x).1 h).2.1
theorem GStmt.wf_Name {x : GStmt} (h : x.wf) : x.Name.size ≤ 140737488351232 := ((GStmt.wf_iff x).1 h).2.2.1
theorem GStmt.wl_Args {x : GStmt} (h : x.wf) : x.Args.length * 64 ≤ 140737488351232 := ((GStmt.wf_iff x).1 h).2.2.2.1
theorem GStmt.wf_Args {x : GStmt} (h : x.wf) : (∀ y0 : GExpr, y0 ∈ x.Args → y0.wf) := ((GStmt.wf_iff x).1 h).2.2.2.2.1
theorem GStmt.wl_Body {x : GStmt} (h : x.wf) : x.Body.length * 104 ≤ 140737488351232 := ((GStmt.wf_iff x).1 h).2.2.2.2.2.1
theorem GStmt.wf_Body {x : GStmt} (h : x.wf) : (∀ y0 : GStmt, y0 ∈ x.Body → y0.wf) := ((GStmt.wf_iff x).1 h).2.2.2.2.2.2.1
theorem GStmt.wl_Else {x : GStmt} (h : x.wf) : x.Else.length * 104 ≤ 140737488351232 := ((GStmt.wf_iff x).1 h).2.2.2.2.2.2.2.1
theorem GStmt.wf_Else {x : GStmt} (h : x.wf) : (∀ y0 : GStmt, y0 ∈ x.Else → y0.wf) := ((GStmt.wf_iff x).1 h).2.2.2.2.2.2.2.2
theorem tyK_53 : tyK Tryz.prog 53 = .st [3, 3, 9, 51, 36, 36] := by kernel_rfl
theorem tyK_36 : tyK Tryz.prog 36 = .sl 53 104 := by kernel_rfl
theorem GStmt.of' : ∀ (n : Nat) {ys : List D}, SizeOf.sizeOf ys < n → HasT Tryz.prog 53 ys → ∃ x : GStmt, ys = x.enc ∧ x.wf := by
  intro n
  induction n with
  | zero => intro ys h; omega
  | succ n ih =>
  intro ys hsz h
  have h' := HasT.st_inv h tyK_53
  obtain ⟨a0_, r0, hr0, t0, h0⟩ := h'
  obtain ⟨a1_, r1, hr1, t1, h1⟩ := h0
  obtain ⟨a2_, r2, hr2, t2, h2⟩ := h1
  obtain ⟨a3_, r3, hr3, t3, h3⟩ := h2
  obtain ⟨a4_, r4, hr4, t4, h4⟩ := h3
  obtain ⟨a5_, r5, hr5, t5, h5⟩ := h4
  simp only [HasTs] at h5
  subst h5
  subst hr5
  subst hr4
  subst hr3
  subst hr2
  subst hr1
  subst hr0
  obtain ⟨a0_', rfl, a0_w⟩ := HasT.int_inv t0 tyK_3
  obtain ⟨a1_', rfl, a1_w⟩ := HasT.int_inv t1 tyK_3
  obtain ⟨a2_', rfl, a2_w⟩ := HasT.str_inv t2 tyK_9
  obtain ⟨a3_0, rfl, a3_h, a3_l, a3_w⟩ := HasT.sl_inv t3 tyK_51
  obtain ⟨a3_', rfl, a3_a⟩ := map_of (f := GExpr.enc) (p := fun (y : GExpr) => y.wf) (fun a3_e hx => by
    have a3_q := a3_h a3_e hx
    obtain ⟨a3_e', rfl, a3_ew⟩ := GExpr.of a3_q
    exact ⟨a3_e', rfl, a3_ew⟩)
  obtain ⟨a4_0, rfl, a4_h, a4_l, a4_w⟩ := HasT.sl_inv t4 tyK_36
  obtain ⟨a4_', rfl, a4_a⟩ := map_of (f := GStmt.enc) (p := GStmt.wf) (fun a4_e hx => ih (by have hlt := List.sizeOf_lt_of_mem hx; simp at hsz; omega) (a4_h a4_e hx))
  obtain ⟨a5_0, rfl, a5_h, a5_l, a5_w⟩ := HasT.sl_inv t5 tyK_36
  obtain ⟨a5_', rfl, a5_a⟩ := map_of (f := GStmt.enc) (p := GStmt.wf) (fun a5_e hx => ih (by have hlt := List.sizeOf_lt_of_mem hx; simp at hsz; omega) (a5_h a5_e hx))
  exact ⟨.mk a0_' a1_' a2_' a3_' a4_' a5_', by rw [GStmt.enc_eq]; rfl, by rw [GStmt.wf]; exact ⟨a0_w, a1_w, a2_w, (by simpa using a3_w), a3_a, (by simpa using a4_w), (GStmt.wfs_iff _).2 a4_a, (by simpa using a5_w), (GStmt.wfs_iff _).2 a5_a⟩⟩
theorem GStmt.of {ys : List D} (h : HasT Tryz.prog 53 ys) : ∃ x : GStmt, ys = x.enc ∧ x.wf := GStmt.of' _ (Nat.lt_succ_self _) h
structure GBook where
  Tables : GTables
  Routines : (List (List GStmt))
def GBook.enc (x : GBook) : List D := [D.v (.int .i64 x.Tables.Title), D.v (.int .i64 x.Tables.By), D.v (.int .i64 x.Tables.Release), D.v (.int .i64 x.Tables.Max), D.sl (encS x.Tables.Texts), D.v (.int .i64 x.Tables.Flags), D.sl (encI x.Tables.Props), D.sl (encI x.Tables.Globals), D.sl (x.Tables.Things.map GThing.enc), D.sl (x.Tables.Acts.map GAct.enc), D.sl (x.Tables.Deeds.map GDeed.enc), D.sl (encI x.Tables.Funcs), D.sl (encI x.Tables.Daemons), D.sl (encI x.Tables.Params), D.sl (encI x.Tables.Locals), D.sl (encSl (List.map GStmt.enc) x.Routines)]
@[simp] theorem GBook.enc_length (x : GBook) : x.enc.length = 16 := .trans rfl rfl
@[simp] theorem GBook.encg_4 (x : GBook) (h : 4 < x.enc.length) : x.enc[4] = D.sl (encS x.Tables.Texts) := .trans rfl rfl
@[simp] theorem GBook.encg_8 (x : GBook) (h : 8 < x.enc.length) : x.enc[8] = D.sl (x.Tables.Things.map GThing.enc) := .trans rfl rfl
@[simp] theorem GBook.encg_10 (x : GBook) (h : 10 < x.enc.length) : x.enc[10] = D.sl (x.Tables.Deeds.map GDeed.enc) := .trans rfl rfl
@[simp] theorem GBook.encg_13 (x : GBook) (h : 13 < x.enc.length) : x.enc[13] = D.sl (encI x.Tables.Params) := .trans rfl rfl
@[simp] theorem GBook.encg_14 (x : GBook) (h : 14 < x.enc.length) : x.enc[14] = D.sl (encI x.Tables.Locals) := .trans rfl rfl
@[simp] theorem GBook.encg_15 (x : GBook) (h : 15 < x.enc.length) : x.enc[15] = D.sl (encSl (List.map GStmt.enc) x.Routines) := .trans rfl rfl
def GBook.zero : GBook := ⟨GTables.zero, []⟩
@[simp] theorem GBook.dropAllv (x : GBook) : List.drop 16 (x.enc.map V.d) = [] := .trans rfl rfl
@[simp] theorem GBook.enc_allv (x : GBook) : List.take 16 (x.enc.map V.d) = x.enc.map V.d := .trans rfl rfl
@[simp] theorem GBook.subv_Tables (x : GBook) : List.take 15 (x.enc.map V.d) = x.Tables.enc.map V.d := .trans rfl rfl
def GBook.wf (x : GBook) : Prop := x.Tables.wf ∧ x.Routines.length * 24 ≤ 140737488351232 ∧ (∀ y0 : (List GStmt), y0 ∈ x.Routines → y0.length * 104 ≤ 140737488351232 ∧ (∀ y1 : GStmt, y1 ∈ y0 → y1.wf))
theorem GBook.wf_Tables {x : GBook} (h : x.wf) : x.Tables.wf := h.1
theorem GBook.wl_Routines {x : GBook} (h : x.wf) : x.Routines.length * 24 ≤ 140737488351232 := h.2.1
theorem GBook.wf_Routines {x : GBook} (h : x.wf) : (∀ y0 : (List GStmt), y0 ∈ x.Routines → y0.length * 104 ≤ 140737488351232 ∧ (∀ y1 : GStmt, y1 ∈ y0 → y1.wf)) := h.2.2
theorem tyK_31 : tyK Tryz.prog 31 = .st [28, 29] := by kernel_rfl
theorem tyK_29 : tyK Tryz.prog 29 = .sl 36 24 := by kernel_rfl
theorem GBook.of {ys : List D} (h : HasT Tryz.prog 31 ys) : ∃ x : GBook, ys = x.enc ∧ x.wf := by
  obtain ⟨_, _, rfl, t0, _, _, rfl, t1, rfl⟩ := h.st_inv tyK_31
  obtain ⟨a0, rfl, w0⟩ := GTables.of t0
  obtain ⟨a1, rfl, l1, w1⟩ := t1.lst tyK_29 (fun h => h.lst tyK_36 GStmt.of)
  exact ⟨⟨a0, a1⟩, rfl, w0, l1, w1⟩
structure GStory where
  Tables : GTables
  Entry : (List Int)
  Code : (List Int)
  deriving DecidableEq
def GStory.enc (x : GStory) : List D := [D.v (.int .i64 x.Tables.Title), D.v (.int .i64 x.Tables.By), D.v (.int .i64 x.Tables.Release), D.v (.int .i64 x.Tables.Max), D.sl (encS x.Tables.Texts), D.v (.int .i64 x.Tables.Flags), D.sl (encI x.Tables.Props), D.sl (encI x.Tables.Globals), D.sl (x.Tables.Things.map GThing.enc), D.sl (x.Tables.Acts.map GAct.enc), D.sl (x.Tables.Deeds.map GDeed.enc), D.sl (encI x.Tables.Funcs), D.sl (encI x.Tables.Daemons), D.sl (encI x.Tables.Params), D.sl (encI x.Tables.Locals), D.sl (encI x.Entry), D.sl (x.Code.map fun y => [D.v (.int .u8 y)])]
@[simp] theorem GStory.enc_length (x : GStory) : x.enc.length = 17 := .trans rfl rfl
@[simp] theorem GStory.encg_15 (x : GStory) (h : 15 < x.enc.length) : x.enc[15] = D.sl (encI x.Entry) := .trans rfl rfl
@[simp] theorem GStory.encg_16 (x : GStory) (h : 16 < x.enc.length) : x.enc[16] = D.sl (x.Code.map fun y => [D.v (.int .u8 y)]) := .trans rfl rfl
def GStory.zero : GStory := ⟨GTables.zero, [], []⟩
def GStory.wf (x : GStory) : Prop := x.Tables.wf ∧ x.Entry.length * 8 ≤ 140737488351232 ∧ (∀ y0 : Int, y0 ∈ x.Entry → inR .i64 y0) ∧ x.Code.length * 1 ≤ 140737488351232 ∧ (∀ y0 : Int, y0 ∈ x.Code → inR .u8 y0)
structure GIns where
  Op : Int
  Arg : Int
  deriving DecidableEq
def GIns.enc (x : GIns) : List D := [D.v (.int .i64 x.Op), D.v (.int .i64 x.Arg)]
@[simp] theorem GIns.enc_length (x : GIns) : x.enc.length = 2 := .trans rfl rfl
@[simp] theorem GIns.encg_0 (x : GIns) (h : 0 < x.enc.length) : x.enc[0] = D.v (.int .i64 x.Op) := .trans rfl rfl
@[simp] theorem GIns.encg_1 (x : GIns) (h : 1 < x.enc.length) : x.enc[1] = D.v (.int .i64 x.Arg) := .trans rfl rfl
def GIns.zero : GIns := ⟨0, 0⟩
@[simp] theorem GIns.getZ (o : Option GIns) : (o.map GIns.enc).getD [D.v (.int .i64 0), D.v (.int .i64 0)] = (o.getD GIns.zero).enc := by cases o <;> rfl
@[simp] theorem GIns.enc_all (x : GIns) : x.enc.take 2 = x.enc := .trans rfl rfl
@[simp] theorem GIns.enc_allv (x : GIns) : List.take 2 (x.enc.map V.d) = x.enc.map V.d := .trans rfl rfl
def GIns.wf (x : GIns) : Prop := inR .i64 x.Op ∧ inR .i64 x.Arg
structure GWorld where
  Globals : (List Int)
  Parent : (List Int)
  Child : (List Int)
  Next : (List Int)
  Flags : (List Int)
  Props : (List Int)
  Timers : (List Int)
  Seed : Int
  Score : Int
  Turns : Int
  Over : Int
  It : Int
  Go : Int
  deriving DecidableEq
def GWorld.enc (x : GWorld) : List D := [D.sl (encI x.Globals), D.sl (encI x.Parent), D.sl (encI x.Child), D.sl (encI x.Next), D.sl (encI x.Flags), D.sl (encI x.Props), D.sl (encI x.Timers), D.v (.int .u64 x.Seed), D.v (.int .i64 x.Score), D.v (.int .i64 x.Turns), D.v (.int .i64 x.Over), D.v (.int .i64 x.It), D.v (.int .i64 x.Go)]
@[simp] theorem GWorld.enc_length (x : GWorld) : x.enc.length = 13 := .trans rfl rfl
@[simp] theorem GWorld.encg_1 (x : GWorld) (h : 1 < x.enc.length) : x.enc[1] = D.sl (encI x.Parent) := .trans rfl rfl
@[simp] theorem GWorld.encg_2 (x : GWorld) (h : 2 < x.enc.length) : x.enc[2] = D.sl (encI x.Child) := .trans rfl rfl
@[simp] theorem GWorld.encg_3 (x : GWorld) (h : 3 < x.enc.length) : x.enc[3] = D.sl (encI x.Next) := .trans rfl rfl
def GWorld.zero : GWorld := ⟨[], [], [], [], [], [], [], 0, 0, 0, 0, 0, 0⟩
@[simp] theorem GWorld.enc_allv (x : GWorld) : List.take 13 (x.enc.map V.d) = x.enc.map V.d := .trans rfl rfl
def GWorld.wf (x : GWorld) : Prop := x.Globals.length * 8 ≤ 140737488351232 ∧ (∀ y0 : Int, y0 ∈ x.Globals → inR .i64 y0) ∧ x.Parent.length * 8 ≤ 140737488351232 ∧ (∀ y0 : Int, y0 ∈ x.Parent → inR .i64 y0) ∧ x.Child.length * 8 ≤ 140737488351232 ∧ (∀ y0 : Int, y0 ∈ x.Child → inR .i64 y0) ∧ x.Next.length * 8 ≤ 140737488351232 ∧ (∀ y0 : Int, y0 ∈ x.Next → inR .i64 y0) ∧ x.Flags.length * 8 ≤ 140737488351232 ∧ (∀ y0 : Int, y0 ∈ x.Flags → inR .i64 y0) ∧ x.Props.length * 8 ≤ 140737488351232 ∧ (∀ y0 : Int, y0 ∈ x.Props → inR .i64 y0) ∧ x.Timers.length * 8 ≤ 140737488351232 ∧ (∀ y0 : Int, y0 ∈ x.Timers → inR .i64 y0) ∧ inR .u64 x.Seed ∧ inR .i64 x.Score ∧ inR .i64 x.Turns ∧ inR .i64 x.Over ∧ inR .i64 x.It ∧ inR .i64 x.Go
structure GEnv where
  Noun : Int
  Second : Int
  Number : Int
  deriving DecidableEq
structure GTold where
  Err : Int
  World : GWorld
  Out : ByteArray
  Value : Int
  Stopped : Bool
  Fuel : Int
  deriving DecidableEq
structure GFrame where
  Routine : Int
  At : Int
  Base : Int
  Locals : (List Int)
  deriving DecidableEq
structure GMachine where
  Frames : (List GFrame)
  Stack : (List Int)
  Env : GEnv
  Told : GTold
  Done : Bool
  deriving DecidableEq
end Go.Ab

namespace Go.Ab
section
variable {P : Program} {n : Nat} {s : St} {Q : AX → St → Prop} {L : Heap}
structure Pure (P : Program) (f : FuncId) (args : List V) (x : V) : Prop where
  en : enters P f = true
  on : V.ons [] args = true
  rn : x.on [] = true
  calls : ACalls P f args [] (fun r _ => r = .ret x)
theorem Pure.run {f} {args} {x} {fn} {c} (hf : P.funcs[f]? = some fn) (hb : fn.body = some c) (hs : args.length ≤ fn.ntmps ∧ enters P f = true ∧ V.ons [] args = true ∧ x.on [] = true)
    (h : codeK P fn.ntmps c ⟨argFrame 0 args, []⟩ (kontK P fn.ntmps (FPost P fn.results.toList (fun r L' => ∃ y, r = .ret y ∧ y.fz L' = x)) [])) : Pure P f args x :=
  ⟨hs.2.1, hs.2.2.1, hs.2.2.2, (ACalls.data (ACalls.run hf hb hs.1 h) hs.2.2.2).mono fun _ _ h => h.1⟩
theorem Pure.eq {f} {args args'} {x x'} (h : Pure P f args x) (ha : args = args') (hx : x = x') : Pure P f args' x' := by subst ha; subst hx; exact h
theorem Pure.ok {f} {args} {x} (h : Pure P f args x) L : OKCall P f args L x := OKCall.pure h.en h.on h.rn h.calls
structure Kept (P : Program) (f : FuncId) (args : List V) (L1 : Heap) (x : V) : Prop where
  en : enters P f = true
  on : V.ons (keys L1) args = true
  onL : L1.all (fun p => Res.on (keys L1) p.2 && isBox p.2) = true
  rn : x.scal = true
  calls : ACalls P f args L1 (fun r L' => r = .ret x ∧ L' = L1)
theorem AOps.pureC {ops} {o : Oper} {rest} {c} {f} {args} {x} (hop : o.op = .call c) (h : Pure P f args x) (hc : callee s.ev c = some (f, args)) (hg : o.guard = none)
    (hd : ∀ d, o.dst = some d → d < n) (hr : dstsOk n rest = true) (k : ∀ bs, runC P ops rest (s.put o.dst x) bs [] (KK P n ops Q)) : AOps P n ops (o :: rest) s Q :=
  AOps.quietT hg hd (OpT.call hop hc h.en h.on h.rn h.calls) (runC_sound rest _ [] hr k)
theorem AOps.lendC {ops} {o : Oper} {rest} {c} {f} {args args'} {x} (hop : o.op = .call c) (h : Pure P f args' x) (hc : callee s.ev c = some (f, args)) (ha : V.fzs s.L args = args') (hx : x.scal = true) (hg : o.guard = none)
    (hd : ∀ d, o.dst = some d → d < n) (hr : dstsOk n rest = true) (k : ∀ bs, runC P ops rest (s.put o.dst x) bs [] (KK P n ops Q)) : AOps P n ops (o :: rest) s Q := by
  subst ha
  exact AOps.quietT hg hd (OpT.lend hop hc h.en h.on hx h.calls) (runC_sound rest _ [] hr k)
theorem AOps.effC {ops} {o : Oper} {rest} {c} {f} {args} {L1} {R} (hs : List Nat) (hop : o.op = .call c) (h : ACalls P f args L1 R) (hc : callee s.ev c = some (f, args)) (hg : o.guard = none)
    (hd : ∀ d, o.dst = some d → d < n) (hr : dstsOk n rest = true) (he : enters P f = true) (hL : s.L.filter (fun p => hs.contains p.1) = L1)
    (ho : V.ons (keys L1) args = true) (hon : L1.all (fun p => Res.on (keys L1) p.2) = true)
    (hfr : s.fr.all (fun p => V.on (keys (s.L.filter fun p => !hs.contains p.1) ++ (L1.filterMap fun p => match p.2 with | .box (_ + 1) _ _ => some p.1 | _ => none)) p.2) = true)
    (hL2 : (s.L.filter fun p => !hs.contains p.1).all (fun p => Res.on (keys (s.L.filter fun p => !hs.contains p.1) ++ (L1.filterMap fun p => match p.2 with | .box (_ + 1) _ _ => some p.1 | _ => none)) p.2) = true)
    (hstay : ∀ r L1', R r L1' → (∃ x, r = .ret x) ∧ (∀ k ∈ keys L1', k ∉ keys (s.L.filter fun p => !hs.contains p.1)) ∧ ∀ k b ty cs, (k, Res.box (b + 1) ty cs) ∈ L1 → ∃ ty' cs', (k, Res.box (b + 1) ty' cs') ∈ L1')
    (k : ∀ x L1', R (.ret x) L1' → ∀ bs, runC P ops rest (St.put { s with L := L1' ++ s.L.filter fun p => !hs.contains p.1 } o.dst x) bs [] (KK P n ops Q)) : AOps P n ops (o :: rest) s Q :=
  AOps.callG   hg hd hop hc he ho (by subst hL; exact (List.filter_append_perm _ s.L).symm) hon (fun p hp => List.all_eq_true.1 hfr p hp) (fun p hp => List.all_eq_true.1 hL2 p hp) h hstay
    (fun x L1' hR => runC_sound rest _ [] hr (k x L1' hR))
def boxAt : Res → Option Nat
  | .box b _ _ => some b
  | _ => none
attribute [simp] boxAt
theorem boxKeys (L1 : Heap) : (L1.filterMap fun p => match p.2 with | .box (_ + 1) _ _ => some p.1 | _ => none) = keys (L1.filter fun p => isBox p.2) := by
  induction L1 with
  | nil => rfl
  | cons p l ih =>
    obtain ⟨a, r⟩ := p
    cases r with
    | box b ty cs =>
      cases b with
      | succ b => simp only [List.filterMap_cons, List.filter_cons, isBox, if_true, keys, List.map_cons, ih]
      | zero =>
        simp only [List.filterMap_cons, List.filter_cons, isBox, ih]
        simp
    | row ty k xs =>
      simp only [List.filterMap_cons, List.filter_cons, isBox, ih]
      simp
    | env A =>
      simp only [List.filterMap_cons, List.filter_cons, isBox, ih]
      simp
    | mp es =>
      simp only [List.filterMap_cons, List.filter_cons, isBox, ih]
      simp
theorem boxStay {L1 L1' : Heap} (ho : L1.all (fun p => !isBox p.2 || L1'.any (fun q => q.1 == p.1 && (isBox q.2 && boxAt q.2 == boxAt p.2))) = true) {k b : Nat} {ty : TypeId} {cs : List V} (hm : (k, Res.box (b + 1) ty cs) ∈ L1) : ∃ ty' cs', (k, Res.box (b + 1) ty' cs') ∈ L1' := by
  have := List.all_eq_true.1 ho _ hm
  simp only [isBox, Bool.not_true, Bool.false_or, List.any_eq_true, Bool.and_eq_true, beq_iff_eq] at this
  obtain ⟨⟨a, r⟩, h1, h2, h3, h4⟩ := this
  simp only at h2
  subst h2
  cases r with
  | box b' ty' cs' =>
    simp only [boxAt, Option.some.injEq] at h4
    subst h4
    exact ⟨ty', cs', h1⟩
  | row _ _ _ => simp at h3
  | env _ => simp at h3
  | mp _ => simp at h3
theorem AOps.effD {ops : Array Oper} {o : Oper} {rest : List Oper} {c : Call} {f : FuncId} {args : List V} {L1 L1' : Heap} {x : V} (hs : List Nat) (hop : o.op = .call c) (h : ACalls P f args L1 (fun r L => r = .ret x ∧ L = L1')) (hc : callee s.ev c = some (f, args)) (hg : o.guard = none)
    (hd : ∀ d, o.dst = some d → d < n) (hr : dstsOk n rest = true) (he : enters P f = true) (hL : s.L.filter (fun p => hs.contains p.1) = L1)
    (ho : V.ons (keys L1) args = true ∧ L1.all (fun p => Res.on (keys L1) p.2) = true ∧ L1.all (fun p => !isBox p.2 || L1'.any (fun q => q.1 == p.1 && (isBox q.2 && boxAt q.2 == boxAt p.2))) = true)
    (hfr : s.fr.all (fun p => V.on (keys (s.L.filter fun p => !hs.contains p.1) ++ keys (L1.filter fun p => isBox p.2)) p.2) = true)
    (hL2 : (s.L.filter fun p => !hs.contains p.1).all (fun p => Res.on (keys (s.L.filter fun p => !hs.contains p.1) ++ keys (L1.filter fun p => isBox p.2)) p.2) = true)
    (hk : (keys L1').all (fun k => !(keys (s.L.filter fun p => !hs.contains p.1)).contains k) = true)
    (k : ∀ bs, runC P ops rest (St.put { s with L := L1' ++ s.L.filter fun p => !hs.contains p.1 } o.dst x) bs [] (KK P n ops Q)) : AOps P n ops (o :: rest) s Q := by
  have hbx := boxKeys L1
  refine AOps.effC hs hop h hc hg hd hr he hL ho.1 ho.2.1 (by rw [hbx]; exact hfr) (by rw [hbx]; exact hL2) ?_ ?_
  · rintro r L1'' ⟨rfl, rfl⟩
    refine ⟨⟨_, rfl⟩, fun k hk' => ?_, fun k b ty cs hm => ?_⟩
    · have := List.all_eq_true.1 hk k hk'
      simpa using this
    · exact boxStay ho.2.2 hm
  · rintro x' L1'' ⟨e, rfl⟩
    obtain rfl := AE.ret.inj e
    exact k
def upF (fr : List (Nat × V)) (ov : List (Nat × V)) : List (Nat × V) := fr.map fun p => (p.1, (ov.lookup p.1).getD p.2)
def upL (L : Heap) (ov : List (Nat × Res)) : Heap := L.map fun p => (p.1, (ov.lookup p.1).getD p.2)
def St.up (s : St) (F : List (Nat × V)) (R : List (Nat × Res)) : St := ⟨upF s.fr F, upL s.L R⟩
def LoopS (ts hs : List Nat) (S : Nat → St) (N : Nat) (H : Nat → Prop) (i : Nat) (s : St) : Prop := (s.pick ts hs).on (keys (s.pick ts hs).L) = true ∧ i < N ∧ s.pick ts hs = S (i + 1) ∧ H (i + 1)
theorem AWP.loopS {c} {ks} ts N (F : Nat → List (Nat × V)) (R : Nat → List (Nat × Res)) H (ht : ts.all (fun t => decide (t < n)) = true)
    (h0 : (keys s.L).Nodup ∧ (s.pick ts (keys s.L)).on (keys (s.pick ts (keys s.L)).L) = true ∧ s.pick ts (keys s.L) = (s.pick ts (keys s.L)).up (F 0) (R 0) ∧ H 0)
    (round : ∀ i, i ≤ N → H i → codeK P n c ((s.pick ts (keys s.L)).up (F i) (R i)) (kontK P n Q (.inv (LoopS ts (keys s.L) (fun i => (s.pick ts (keys s.L)).up (F i) (R i)) N H i) :: ks))) :
    AWP P n (.loop c) s (kontK P n Q ks) := by
  obtain ⟨h1, h2, h3, h4⟩ := h0
  refine AWP.weaken (Wk.pick ts (keys s.L) ht h1 h2) (AWP.loop (fun k st => ∃ i, k = N - i ∧ i ≤ N ∧ H i ∧ st = (s.pick ts (keys s.L)).up (F i) (R i)) ⟨N, 0, rfl, Nat.zero_le _, h4, h3⟩ ?_)
  rintro k st ⟨i, rfl, hi, hH, rfl⟩
  refine AWP.mono (codeK_sound _ _ _ (round i hi hH)) (fun x s' h => ?_)
  cases x with
  | normal =>
    obtain ⟨a1, a2, a3, a4⟩ := h
    exact ⟨N - (i + 1), by omega, _, Wk.pick ts (keys s.L) ht h1 a1, i + 1, rfl, by omega, a4, a3⟩
  | _ => exact h
def Res.rlx : Res → Res
  | .box _ ty cs => .box 0 ty cs
  | r => r
def St.rlx (rs : List Nat) (s : St) : St := ⟨s.fr, s.L.map fun p => (p.1, if rs.contains p.1 then p.2.rlx else p.2)⟩
theorem Wk.rlx rs : Wk n s (s.rlx rs) := by
  intro fo m a w g
  have hi := g.inv
  have hk : keys (St.rlx rs s).L = keys s.L := by simp [St.rlx]
  refine ⟨m, ⟨g.size, g.fr, ⟨by rw [hk]; exact hi.nodup, fun h x hx => by rw [hk]; exact hi.dom h x hx, hi.apart, hi.others, hi.folt, ?_, hi.glob⟩, g.defers⟩, Step.refl w _⟩
  intro h r hr
  obtain ⟨p, hp, he⟩ := List.mem_map.1 hr
  cases he
  obtain ⟨x, hx, hh⟩ := hi.holds p.1 p.2 hp
  refine ⟨x, hx, ?_⟩
  split
  · generalize p.2 = q at hh
    cases q with
    | row ty k xs => exact hh
    | env A => exact hh
    | mp es => exact hh
    | box b ty cs =>
      obtain ⟨bb, _, h1⟩ := hh
      exact ⟨bb, .inl rfl, h1⟩
  omega
def LoopR (rs ts hs : List Nat) (S : Nat → St) (N : Nat) (H : Nat → Prop) (i : Nat) (s : St) : Prop := (s.pick ts hs).on (keys (s.pick ts hs).L) = true ∧ i < N ∧ (s.pick ts hs).rlx rs = S (i + 1) ∧ H (i + 1)
attribute [simp] Res.rlx St.rlx LoopR
def LoopW (n : Nat) (S : Nat → St) (N : Nat) (H : Nat → Prop) (i : Nat) (s : St) : Prop := i < N ∧ H (i + 1) ∧ Wk n s (S (i + 1))
attribute [simp] upF upL St.up LoopS LoopW
@[simp] theorem encB_getElem (l : List Bool) (i : Nat) (h : i < (encB l).length) : (encB l)[i]'h = [.v (.bool (l[i]'(by simpa using h)))] := by simp [encB]
@[simp] theorem encS_getElem (l : List ByteArray) (i : Nat) (h : i < (encS l).length) : (encS l)[i]'h = [.v (.string (l[i]'(by simp_all)))] := by simp [encS]
@[simp] theorem encSl_getElem {α : Type} (g : List α → List (List D)) (l : List (List α)) (i : Nat) (h : i < (encSl g l).length) : (encSl g l)[i]'h = [.sl (g (l[i]'(by simp_all)))] := by simp [encSl]
@[simp] theorem encI_getElem (l : List Int) (i : Nat) (h : i < (encI l).length) : (encI l)[i]'h = [.v (.int .i64 (l[i]'(by simp_all)))] := by simp [encI]
end
end Go.Ab

namespace Go.Ab
section
variable {P : Program} {n : Nat} {s : St} {Q : AX → St → Prop} {L : Heap}
def LoopL {α : Type} (ts hs : List Nat) (S : List α → St) (H : List α → Prop) (pre : List α) (x : α) (s : St) : Prop := (s.pick ts hs).on (keys (s.pick ts hs).L) = true ∧ s.pick ts hs = S (pre ++ [x]) ∧ H (pre ++ [x])
theorem AWP.loopL {α : Type} {c : Code} {ks : List KI} (ts : List Nat) (l : List α) (F : List α → List (Nat × V)) (R : List α → List (Nat × Res)) (H : List α → Prop) (ht : ts.all (fun t => decide (t < n)) = true) (hl : l.length ≤ 1000000000000000)
    (h0 : (keys s.L).Nodup ∧ (s.pick ts (keys s.L)).on (keys (s.pick ts (keys s.L)).L) = true ∧ s.pick ts (keys s.L) = (s.pick ts (keys s.L)).up (F []) (R []) ∧ H [])
    (round : ∀ pre x post, l = pre ++ x :: post → H pre → (hlt : pre.length < l.length) → l[pre.length] = x → inR .i64 ((pre.length : Int) + 1) →
      codeK P n c ((s.pick ts (keys s.L)).up (F pre) (R pre)) (kontK P n Q (.inv (LoopL ts (keys s.L) (fun l => (s.pick ts (keys s.L)).up (F l) (R l)) H pre x) :: ks)))
    (last : H l → codeK P n c ((s.pick ts (keys s.L)).up (F l) (R l)) (kontK P n Q (.inv (fun _ => False) :: ks))) :
    AWP P n (.loop c) s (kontK P n Q ks) := by
  obtain ⟨h1, h2, h3, h4⟩ := h0
  refine AWP.weaken (Wk.pick ts (keys s.L) ht h1 h2) (AWP.loop (fun k st => ∃ pre post, l = pre ++ post ∧ k = post.length ∧ H pre ∧ st = (s.pick ts (keys s.L)).up (F pre) (R pre)) ⟨l.length, [], l, rfl, rfl, h4, h3⟩ ?_)
  rintro k st ⟨pre, post, hsp, rfl, hH, rfl⟩
  match post, hsp with
  | x :: post, hsp =>
    refine AWP.mono (codeK_sound _ _ _ (round pre x post hsp hH (by rw [hsp]; simp) (by simp [hsp]) (by rw [inR_i64]; rw [hsp] at hl; simp at hl; omega))) (fun y s' h => ?_)
    cases y with
    | normal =>
      obtain ⟨a1, a2, a3⟩ := h
      exact ⟨post.length, by simp, _, Wk.pick ts (keys s.L) ht h1 a1, pre ++ [x], post, by simp [hsp], rfl, a3, a2⟩
    | _ => exact h
  | [], hsp =>
    rw [List.append_nil] at hsp
    subst hsp
    refine AWP.mono (codeK_sound _ _ _ (last hH)) (fun y s' h => ?_)
    cases y with
    | normal => exact h.elim
    | _ => exact h
end
attribute [simp] LoopL
end Go.Ab

namespace Go.Ab
section
variable {P : Program} {n : Nat} {s : St} {Q : AX → St → Prop} {ops : Array Oper}
theorem Oper.uponIn_mono {F} {d} {o : Oper} {a} {next next'} {Q1 Q2} (hn : ∀ a w, next a w → next' a w) (he : ∀ e a w, e ≠ .normal → Q1 e a w → Q2 e a w) {r} (h : o.uponIn F d P a next Q1 r) : o.uponIn F d P a next' Q2 r := by
  cases r with
  | ok x w' =>
    cases x <;> simp  [Oper.uponIn] at h ⊢ <;>
      first
        | exact hn _ _ h
        | exact ⟨h.1, CallsIn.mono h.2 (fun e w'' hh => by cases e <;> first | exact hn _ _ hh | exact he _ _ _ (by simp) hh | (obtain ⟨a0, w0, hq⟩ := hh; exact ⟨a0, w0, he _ _ _ (by simp) hq⟩))⟩
        | exact ⟨h.1, RowsIn.mono h.2 (fun _ _ hh => hn _ _ hh)⟩
        | exact ⟨h.1, RoundIn.mono h.2 (fun e w'' hh => by cases e <;> first | exact hn _ _ hh | exact he _ _ _ (by simp) hh | (obtain ⟨a0, w0, hq⟩ := hh; exact ⟨a0, w0, he _ _ _ (by simp) hq⟩))⟩
  | halt x w' => cases x <;> simp  [Oper.uponIn] at h ⊢ <;> exact he _ _ _ (by simp) h
theorem wpList_app {F} {d} {Q1 Q2} {l2} (hn : ∀ a w, Q1 .normal a w → wpListIn F d P ops Q2 l2 a w) (he : ∀ e a w, e ≠ .normal → Q1 e a w → Q2 e a w) :
    ∀ l1 a w, wpListIn F d P ops Q1 l1 a w → wpListIn F d P ops Q2 (l1 ++ l2) a w
  | [], a, w, h => hn a w h
  | o :: l1, a, w, h => by
    rw [List.cons_append]
    unfold wpListIn at h ⊢
    split
    · rename_i hw
      rw [if_pos hw] at h
      exact ⟨h.1, Oper.uponIn_mono (fun a w => wpList_app hn he l1 a w) he h.2⟩
    · rename_i hw
      rw [if_neg hw] at h
      exact ⟨h.1, wpList_app hn he l1 _ _ h.2⟩
theorem wpListIn_mono {F} {d} {Q1 Q2} (he : ∀ e a w, Q1 e a w → Q2 e a w) : ∀ l a w, wpListIn F d P ops Q1 l a w → wpListIn F d P ops Q2 l a w
  | [], a, w, h => he _ a w h
  | o :: l, a, w, h => by
    unfold wpListIn at h ⊢
    split
    · rename_i hw
      rw [if_pos hw] at h
      exact ⟨h.1, Oper.uponIn_mono (fun a w => wpListIn_mono he l a w) (fun e a w _ => he e a w) h.2⟩
    · rename_i hw
      rw [if_neg hw] at h
      exact ⟨h.1, wpListIn_mono he l _ _ h.2⟩
theorem AOps.app {l1 l2} (h : AOps P n ops l1 s (AX.then (fun s' => AOps P n ops l2 s' Q) Q)) : AOps P n ops (l1 ++ l2) s Q := by
  intro fo m0 w0 m a w st g
  refine wpList_app (fun a1 w1 h1 => ?_) (fun e a1 w1 hne h1 => ?_) l1 a w (h fo m0 w0 m a w st g)
  · obtain ⟨ms, m', x, s', hm, hq, g', hx, st'⟩ := h1
    cases x <;> simp  [Exits] at hx
    refine wpListIn_mono (fun _ _ _ => Post.marked hm g' st') _ _ _ (hq (fo.mark ms) m' w1 m' a1 w1 (Step.refl _ _) g')
  · obtain ⟨ms, m', x, s', hm, hq, g', hx, st'⟩ := h1
    refine ⟨ms, m', x, s', hm, ?_, g', hx, st'⟩
    cases x with
    | normal => cases e <;> simp  [Exits] at hx; exact (hne rfl).elim
    | _ => exact hq
theorem AOps.stop {l} k us (hd : dstsOk n (l.take k) = true) (h : ∀ bs, runC P ops (l.take k) s bs us (KK P n ops (AX.then (fun s' => AOps P n ops (l.drop k) s' Q) Q))) : AOps P n ops l s Q := by
  rw [← List.take_append_drop k l]
  exact AOps.app (runC_sound _ _ us hd h)
theorem AWP.regionS {id} {l} (h : AOps P n l.toArray l s Q) : AWP P n (.region id l.toArray false) s Q :=
  fun fo m a w _ g => wp_region_toList (by simpa using h fo m w m a w (Step.refl _ _) g)
theorem AOps.subG {o} {rest} {g} {t} {xo yo} {ty} {a b} (hop : o.op = .binOp .sub t xo yo ty) (hgd : guardV ops s o = some (some g)) (hd : ∀ d, o.dst = some d → d < n)
    (hx : (s.ev xo).un = .d (.v (.int .i64 a)) ∧ (s.ev yo).un = .d (.v (.int .i64 b))) (hu : g = true → uncs s o.op.operands.toList)
    (k : AOps P n ops rest (s.put o.dst (.gd g (.d (.v (.int .i64 (IntKind.i64.wrap (a - b))))))) Q) : AOps P n ops (o :: rest) s Q := by
  refine AOps.guarded hgd hd (fun hg => ⟨fun z => (s.ev z).un, fun z hz w O m v hr => un_rel hr (uncs_mem (hu hg) z (by grind)), ?_⟩) k
  intro fo m ρ w hi hr
  have h1 := hr xo (by simp_all)
  have h2 := hr yo (by simp_all)
  simp only [hx.1] at h1
  simp only [hx.2] at h2
  have e1 := h1.v_inv
  have e2 := h2.v_inv
  refine ⟨.int .i64 (IntKind.i64.wrap (a - b)), ?_, .d _ _ (.v _ rfl)⟩
  simp_all [execOp, eqGuard, binOp, Op.intArith]
theorem AOps.pureG {o} {rest} {c} {f} {args} {x} {g} (hop : o.op = .call c) (h : g = true → Pure P f args x) (hc : callee (fun z => (s.ev z).un) c = some (f, args)) (hgd : guardV ops s o = some (some g)) (hu : g = true → uncs s o.op.operands.toList)
    (hd : ∀ d, o.dst = some d → d < n) (hr : dstsOk n rest = true) (k : ∀ bs, runC P ops rest (s.put o.dst (.gd g x)) bs [] (KK P n ops Q)) : AOps P n ops (o :: rest) s Q :=
  AOps.guardedT hgd hd (fun hg => ⟨fun z => (s.ev z).un, fun z hz w O m v hr => un_rel hr (uncs_mem (hu hg) z (by grind)), OpT.call hop hc (h hg).en (h hg).on (h hg).rn (h hg).calls⟩) (runC_sound rest _ [] hr k)
theorem AWP.seqK {x y} (h : codeK P n x s (kontK P n (AX.then (fun s' => AWP P n y s' Q) Q) [])) : AWP P n (.seq x y) s Q := AWP.seq (codeK_sound _ _ _ h)
theorem Pure.runA {f} {args} {x} {fn} {c} (hf : P.funcs[f]? = some fn) (hb : fn.body = some c) (hs : args.length ≤ fn.ntmps ∧ enters P f = true ∧ V.ons [] args = true ∧ x.on [] = true)
    (h : AWP P fn.ntmps c ⟨argFrame 0 args, []⟩ (kontK P fn.ntmps (FPost P fn.results.toList (fun r L' => ∃ y, r = .ret y ∧ y.fz L' = x)) [])) : Pure P f args x :=
  ⟨hs.2.1, hs.2.2.1, hs.2.2.2, (ACalls.data (ACalls.of_AWP hf hb hs.1 h) hs.2.2.2).mono fun _ _ h => h.1⟩
end
end Go.Ab

namespace Go.Ab
section
variable {P : Program} {n : Nat} {s : St} {Q : AX → St → Prop} {L : Heap} {b N : Nat} {ty : TypeId} {k : Nat} {A : Nat → List (List D)}
theorem Wk.ownBox c i h {e k : Nat} {bk} {bt} {cs} (hl : s.L.lookup c = some (.box bk bt cs)) (hi : cs[i]? = some (.d (.v (.slice none 0 0)))) (hn : h ∉ keys s.L) :
    Wk n s ⟨s.fr, (h, .row e k []) :: Heap.upd s.L c (.box bk bt (cs.set i (.rv h)))⟩ := by
  intro fo m a w g
  obtain ⟨g', st⟩ := g.new (Grows.refl w) hn  (r := .row e k []) (by simp [blk, blk1]) (.inl ⟨rfl, rfl⟩)
  refine ⟨_, ⟨g'.size, g'.fr, ?_, g'.defers⟩, st⟩
  have hi' := g'.inv
  have hkey : keys ((h, Res.row e k []) :: Heap.upd s.L c (.box bk bt (cs.set i (.rv h)))) = keys ((h, Res.row e k []) :: s.L) := by
    grind [keys_upd, keys]
  have hmem := lookup_mem hl
  refine ⟨by rw [hkey]; exact hi'.nodup, fun j x hx => by rw [hkey]; exact hi'.dom j x hx, hi'.apart, hi'.others, hi'.folt, ?_, hi'.glob⟩
  intro j r hr
  rcases List.mem_cons.1 hr with hr | hr
  · exact hi'.holds j r (by grind)
  · obtain ⟨p, hp, he⟩ := List.mem_map.1 hr
    split at he
    · cases he
      obtain ⟨x, hx, hh⟩ := hi'.holds c _ (List.mem_cons_of_mem _ hmem)
      refine ⟨x, hx, ?_⟩
      obtain ⟨bb, hbb, cur, e1, e2, e3, e4, e5⟩ := hh
      refine ⟨bb, hbb, cur, e1, e2, by grind, e4, fun l v y hv hy => ?_⟩
      rw [List.getElem?_set] at hy
      split at hy
      · rename_i hil
        subst hil
        split at hy
        · simp  [Option.some.injEq] at hy
          subst hy
          have := e5 i v _ hv hi
          rw [this.bool_inv]
          exact .rv h _ (mset_same _ _) rfl
        grind
      grind
    · rw [he] at hp
      exact hi'.holds j r (List.mem_cons_of_mem _ hp)
@[simp] theorem encI_replicate N v : List.replicate N [V.d (.v (.int .i64 v))] = dd (encI (List.replicate N v)) := by simp [dd, encI]
mutual
def V.ren (h g : Nat) : V → V
  | .bp i o => if i = h then .bp g o else .bp i o
  | .rv i => if i = h then .rv g else .rv i
  | .ep i k x y => if i = h then .ep g k x y else .ep i k x y
  | .clo fn f c => .clo fn (V.rens h g f) (V.rens h g c)
  | .agg cs => .agg (V.rens h g cs)
  | .tup cs => .tup (V.rens h g cs)
  | .gd b x => .gd b (V.ren h g x)
  | .d x => .d x
  | .rp cs => .rp cs
  | .sv i n => if i = h then .sv g n else .sv i n
  | .kn Q => .kn Q
  | .any => .any
def V.rens (h g : Nat) : List V → List V
  | [] => []
  | x :: l => V.ren h g x :: V.rens h g l
end
theorem rens_eq h g : ∀ l : List V, V.rens h g l = l.map (V.ren h g)
  | [] => by rfl
  | x :: l => by simp [V.rens, rens_eq]
theorem rens_d h g (l : List D) : V.rens h g (l.map V.d) = l.map V.d := by
  simp [rens_eq, V.ren]
def Res.ren (h g : Nat) : Res → Res
  | .box b ty cs => .box b ty (V.rens h g cs)
  | .row ty k xs => .row ty k (xs.map (V.rens h g))
  | .env A => .env A
  | .mp es => .mp es
theorem ren_dd h g ys : (dd ys).map (V.rens h g) = dd ys := by
  simp [dd, rens_d]
def St.ren (h g : Nat) (s : St) : St := ⟨s.fr.map fun p => (p.1, p.2.ren h g), s.L.map fun p => (if p.1 = h then g else p.1, p.2.ren h g)⟩
theorem RelV.ren {w} {O} {m m'} {h g} (hm : ∀ i x, i ≠ h → m i = some x → m' i = some x) (hg : ∀ x, m h = some x → m' g = some x) {x} {y} (hr : RelV w O m x y) : RelV w O m' x (y.ren h g) := by
  induction hr with
  | d x y hd => simpa [V.ren] using RelV.d x y hd
  | bp i off b e =>
    simp only [V.ren]
    split
    · rename_i he; subst he; exact .bp g off b (hg _ e)
    · rename_i hne; exact .bp i off b (hm _ _ hne e)
  | rv i x e e1 =>
    simp only [V.ren]
    split
    · rename_i he; subst he; exact .rv g x (hg _ e) e1
    · rename_i hne; exact .rv i x (hm _ _ hne e) e1
  | ep i k p q b o n c e =>
    simp only [V.ren]
    split
    · rename_i he; subst he; exact .ep g k p q b o n c (hg _ e)
    · rename_i hne; exact .ep i k p q b o n c (hm _ _ hne e)
  | rp b off cs f hb hlt hc hr => simpa [V.ren] using RelV.rp b off cs f hb hlt hc hr
  | sv i n b cap e hc hx =>
    simp only [V.ren]
    split
    · rename_i he; subst he; exact .sv g n b cap (hg _ e) hc hx
    · rename_i hne; exact .sv i n b cap (hm _ _ hne e) hc hx
  | clo fn first caps cf cc s1 s2 h1 h2 ih1 ih2 =>
    simp only [V.ren, rens_eq]
    refine .clo fn first caps _ _ (by grind) (by grind) ?_ ?_
    · grind
    grind
  | agg vs cs hs h1 h2 ih =>
    simp only [V.ren, rens_eq]
    refine .agg vs _ (by grind) h1 ?_
    grind
  | tup vs cs hs h2 ih =>
    simp only [V.ren, rens_eq]
    refine .tup vs _ (by grind) ?_
    grind
  | gt x y hr ih => simpa [V.ren] using RelV.gt x _ ih
  | gf y => simpa [V.ren] using RelV.gf (y.ren h g)
  | kn x Q h => simpa [V.ren] using RelV.kn x Q h
  | any x => simpa [V.ren] using RelV.any x
theorem Res.Holds.ren {w} {O} {m m'} {h g} (hm : ∀ i x, i ≠ h → m i = some x → m' i = some x) (hg : ∀ x, m h = some x → m' g = some x) {x} {r : Res} (hh : r.Holds w O m x) : (r.ren h g).Holds w O m' x := by
  cases r with
  | box b ty cs =>
    obtain ⟨bb, hbb, cur, rfl, h1, h2, h3, h4⟩ := hh
    simp  [Res.ren, rens_eq]
    refine ⟨bb, hbb, cur, rfl, h1, by grind, h3, fun j v c hv hc => ?_⟩
    rw [List.getElem?_map] at hc
    obtain ⟨z, hz, rfl⟩ := Option.map_eq_some_iff.1 hc
    exact (h4 j v z hv hz).ren hm hg
  | row ty k xs =>
    rcases hh with ⟨rfl, rfl⟩ | ⟨b, off, cap, cur, rfl, h1, h2, h3, h4, h5, h6, h7⟩
    · exact .inl ⟨rfl, rfl⟩
    · refine .inr ⟨b, off, cap, cur, by simp, h1, by grind, h3, h4, fun i x hx => ?_, h6, fun i j x y v hx hy hv => ?_⟩
      · grind [rens_eq, List.length_map]
      · rw [List.getElem?_map] at hx
        obtain ⟨z, hz, rfl⟩ := Option.map_eq_some_iff.1 hx
        rw [rens_eq, List.getElem?_map] at hy
        obtain ⟨y', hy', rfl⟩ := Option.map_eq_some_iff.1 hy
        exact (h7 i j z y' v hz hy' hv).ren hm hg
  | env A => exact hh
  | mp es => exact hh
theorem Wk.ren h g (hg : g ∉ keys s.L) : Wk n s (s.ren h g) := by
  classical
  intro fo m a w gg
  let m' : Nat → Option Value := fun i => if i = g then m h else if i = h then none else m i
  have hi := gg.inv
  have hgn : ∀ x, m g ≠ some x := fun x hx => hg (hi.dom g x hx)
  have hm : ∀ i x, i ≠ h → m i = some x → m' i = some x := by
    grind
  have hmg : ∀ x, m h = some x → m' g = some x := fun x hx => by grind
  have hm' : ∀ i x, m' i = some x → ∃ j, m j = some x ∧ i = (if j = h then g else j) := by
    grind
  have hown : ∀ b, Ab.own m' b ↔ Ab.own m b := by
    intro b
    constructor
    · rintro ⟨i, x, hx, hb⟩
      obtain ⟨j, hj, _⟩ := hm' i x hx
      exact ⟨j, x, hj, hb⟩
    · rintro ⟨i, x, hx, hb⟩
      by_cases e : i = h
      · subst e; exact ⟨g, x, hmg x hx, hb⟩
      · exact ⟨i, x, hm i x e hx, hb⟩
  have hO : ∀ b, b < w.heap.size → OO fo m' b → OO fo m b := fun b _ ho => ho.imp (hown b).1 id
  have hkey : ∀ i, i ∈ keys s.L → (if i = h then g else i) ∈ keys (s.ren h g).L := by
    intro i hi'
    obtain ⟨p, hp, rfl⟩ := List.mem_map.1 hi'
    exact List.mem_map.2 ⟨_, List.mem_map.2 ⟨p, hp, rfl⟩, rfl⟩
  refine ⟨m', ⟨gg.size, ?_, ?_, gg.defers⟩, ⟨rfl, rfl, rfl, Nat.le_refl _, fun _ _ _ => rfl, fun b _ ho => (hown b).1 ho⟩⟩
  · intro t x hx
    obtain ⟨p, hp, he⟩ := List.mem_map.1 hx
    cases he
    obtain ⟨h1, h2⟩ := gg.fr p.1 p.2 hp
    exact ⟨h1, (h2.ren hm hmg).mono (Keep.refl w _) hO (fun _ _ e => e)⟩
  · refine ⟨?_, ?_, ?_, ?_, hi.folt, ?_, hi.glob.mono (Keep.refl w _) hO⟩
    · have : keys (s.ren h g).L = (keys s.L).map fun i => if i = h then g else i := by
        simp [keys, St.ren, Function.comp_def]
      rw [this]
      have hnd := hi.nodup
      grind [List.Nodup, List.Pairwise.imp_of_mem]
    · intro i x hx
      obtain ⟨j, hj, rfl⟩ := hm' i x hx
      exact hkey j (hi.dom j x hj)
    · intro i j x y b hx hy hb hb'
      obtain ⟨i', hi1, rfl⟩ := hm' i x hx
      obtain ⟨j', hj1, rfl⟩ := hm' j y hy
      rw [hi.apart i' j' x y b hi1 hj1 hb hb']
    · intro i x b hx hb
      obtain ⟨j, hj, _⟩ := hm' i x hx
      exact hi.others j x b hj hb
    · intro i r hr
      obtain ⟨p, hp, he⟩ := List.mem_map.1 hr
      cases he
      obtain ⟨x, hx, hh⟩ := hi.holds p.1 p.2 hp
      refine ⟨x, ?_, (hh.ren hm hmg).mono (fun _ _ => rfl) (Keep.refl w _) hO (fun _ _ e => e)⟩
      grind
attribute [simp] V.ren V.rens Res.ren St.ren rens_d ren_dd
def EPost (P : Program) (rs : List ResultVar) (R : AE → Heap → Prop) (hs : List Nat) (x : AX) (s : St) : Prop :=
  match x with
  | .normal | .ret => (s.pick [] hs).on (keys (s.pick [] hs).L) = true ∧ FPost P rs R .ret (s.pick [] hs)
  | _ => False
theorem AWP.epost {P} {c} {rs} {R} hs (hh : hs.Nodup) (h : AWP P n c s (EPost P rs R hs)) : AWP P n c s (FPost P rs R) := by
  intro fo m a w hr g
  refine Code.wpIn_mono (fun e a1 w1 hp => ?_) (h fo m a w hr g)
  obtain ⟨ms, m', x, s', hmk, hq, g', he, st⟩ := hp
  have key : ∀ y, (s'.pick [] hs).on (keys (s'.pick [] hs).L) = true ∧ FPost P rs R .ret (s'.pick [] hs) → (∀ m2, Exits w1 (OO (fo.mark ms) m2) m2 e y) → FPost P rs R .ret (s'.pick [] hs) = FPost P rs R y (s'.pick [] hs) → Post fo n m w (FPost P rs R) e a1 w1 := by
    intro y h1 h2 h3
    obtain ⟨m2, g2, st2⟩ := Wk.pick [] hs (by simp) hh h1.1 (fo.mark ms) m' a1 w1 g'
    exact ⟨ms, m2, y, s'.pick [] hs, hmk, h3 ▸ h1.2, g2, h2 m2, st.trans st2⟩
  cases x with
  | normal =>
    refine key .normal hq (fun m2 => ?_) rfl
    grind [Exits]
  | ret =>
    refine key .ret hq (fun m2 => ?_) rfl
    grind [Exits]
  | _ => exact hq.elim
theorem ACalls.runP {P} hs (hh : hs.Nodup) {f} {args} {R} {fn} {c} (hf : P.funcs[f]? = some fn) (hb : fn.body = some c) (hn : args.length ≤ fn.ntmps)
    (h : codeK P fn.ntmps c ⟨argFrame 0 args, L⟩ (kontK P fn.ntmps (EPost P fn.results.toList R hs) [])) : ACalls P f args L R :=
  ACalls.of_AWP hf hb hn (AWP.epost hs hh (codeK_sound _ _ _ h))
attribute [simp] EPost
end
end Go.Ab

namespace Go.Ab
section
variable {P : Program} {n : Nat} {s : St} {Q : AX → St → Prop} {ops : Array Oper}
end
end Go.Ab

namespace Go.Ab
section
variable {P : Program} {n : Nat} {s : St} {Q : AX → St → Prop} {ops : Array Oper}
def yv (l : Nat) : V := .d (.v (.func (.yield l) #[] #[]))
structure Bun (w : World) (O : Nat → Prop) (l : Nat) (L : Heap) (m : Nat → Option Value) : Prop where
  nodup : (keys L).Nodup
  dom : ∀ h x, m h = some x → h ∈ keys L
  apart : ∀ h h' x x' b, m h = some x → m h' = some x' → blk x b → blk x' b → h = h'
  self : ¬ own m l
  holds : ∀ h r, (h, r) ∈ L → ∃ x, m h = some x ∧ r.Holds w O m x
def one (x : Value) : Nat → Option Value := fun h => if h = 5003 then some x else none
end
end Go.Ab

namespace Go.Ab
section
variable {P : Program} {n : Nat} {s : St} {Q : AX → St → Prop}
def putPs : List (Nat × V) → List (Nat × V) → List (Nat × V)
  | [], fr => fr
  | (t, x) :: l, fr => putPs l ((t, x) :: delF t fr)
def labs : Heap → List (Nat × Nat)
  | [] => []
  | (h, .box (b + 1) _ _) :: L => (h, b) :: labs L
  | _ :: L => labs L
def RoundQ (hs : List Nat) (L0 L' : Heap) (Hn : Prop) (fr : List (Nat × V)) (K : AX → St → Prop) (x : AX) (s : St) : Prop :=
  match x with
  | .normal => (s.pick [] hs).on (keys (s.pick [] hs).L) = true ∧ (s.pick [] hs).L = L' ∧ Hn
  | .pan _ => False
  | x => (s.pick [] hs).on (keys (s.pick [] hs).L) = true ∧ labs (s.pick [] hs).L = labs L0 ∧ K x ⟨fr, (s.pick [] hs).L⟩
end
end Go.Ab

namespace Go.Ab
section
variable {P : Program} {n : Nat} {s : St} {Q : AX → St → Prop}
theorem perm_keys {L L' : Heap} (h : L.Perm L') : (keys L).Perm (keys L') := h.map _
end
end Go.Ab

namespace Go.Ab
section
variable {P : Program} {n : Nat} {s : St} {Q : AX → St → Prop}
theorem codeK_rangeF {g : Operand} {ps : List Tmp} {assign body : Code} : codeK P n (.rangeFunc g ps.toArray assign body) s Q = AWP P n (.rangeFunc g ps.toArray assign body) s Q := by simp [codeK]
attribute [simp] yv codeK_rangeF RoundQ putPs labs
end
end Go.Ab

namespace Go.Ab
section
variable {P : Program} {n : Nat} {s : St} {Q : AX → St → Prop} {L : Heap}
mutual
theorem kill_kill (h : Nat) : ∀ x : V, V.kill h (V.kill h x) = V.kill h x
  | .bp i o => by simp only [V.kill]; split <;> simp [V.kill, *]
  | .rv i => by simp only [V.kill]; split <;> simp [V.kill, *]
  | .ep i k x y => by simp only [V.kill]; split <;> simp [V.kill, *]
  | .clo fn f c => by simp only [V.kill, kills_kills h f, kills_kills h c]
  | .agg cs => by simp only [V.kill, kills_kills h cs]
  | .tup cs => by simp only [V.kill, kills_kills h cs]
  | .gd b x => by simp only [V.kill, kill_kill h x]
  | .d x => rfl
  | .rp cs => rfl
  | .sv i n => by simp only [V.kill]; split <;> simp [V.kill, *]
  | .kn Q => rfl
  | .any => rfl
theorem kills_kills (h : Nat) : ∀ l : List V, V.kills h (V.kills h l) = V.kills h l
  | [] => rfl
  | x :: l => by simp only [V.kills, kill_kill h x, kills_kills h l]
end
theorem Inv.perm {fo} {m} {L L'} {w} (hp : L.Perm L') (h : Inv fo m L w) : Inv fo m L' w :=
  ⟨(perm_keys hp).nodup_iff.1 h.nodup, fun i x hx => (perm_keys hp).mem_iff.1 (h.dom i x hx), h.apart, h.others, h.folt, fun i r hr => h.holds i r (hp.mem_iff.2 hr), h.glob⟩
end
end Go.Ab

namespace Go.Ab
open Go.Proofs
theorem Tryz.mixed : Tryz.prog.follows .mixedOrders = true := by rfl
def fromB (n lo hi : Int) : Bool := decide (lo ≤ n) && decide (n ≤ hi)
theorem fromB_iff {n lo hi} : fromB n lo hi = true ↔ lo ≤ n ∧ n ≤ hi := by simp [fromB]
def int16 (n : Int) : Bool := fromB n (-32768) 32767
theorem refFrom_ok (n lo hi : Int) : Pure Tryz.prog 64 [.d (.v (.int .i64 n)), .d (.v (.int .i64 lo)), .d (.v (.int .i64 hi))] (.d (.v (.bool (fromB n lo hi)))) := by
  unfold fromB
  refine Pure.run Tryz.func64 rfl (by simp [Tryz.f64]) ?_; simp [Tryz.f64]
theorem refIs_ok (n : Int) : Pure Tryz.prog 118 [.d (.v (.int .i64 n))] (.d (.v (.bool (int16 n)))) := by
  unfold int16 fromB
  refine Pure.run Tryz.func118 rfl (by simp [Tryz.f118]) ?_; simp [Tryz.f118]
def allB {α : Type} (p : α → Bool) (l : List α) : Bool := l.all p
theorem allB_nil {α : Type} (p : α → Bool) : allB p [] = true := rfl
theorem allB_snoc {α} p pre (x : α) : allB p (pre ++ [x]) = (allB p pre && p x) := by simp [allB]
theorem allB_split {α} {p} {l pre post} {x : α} (h : l = pre ++ x :: post) (hH : allB p pre = true) : allB p l = (p x && allB p post) := by
  simp_all [allB]
theorem allB_iff {α} {p} {l : List α} : allB p l = true ↔ ∀ x ∈ l, p x = true := by simp [allB]
theorem refValues_ok (l : List Int) (hl : l.length ≤ 1000000000000000) : Pure Tryz.prog 65 [.d (.sl (encI l))] (.d (.v (.bool (allB int16 l)))) := by
  refine Pure.run Tryz.func65 rfl (by simp [Tryz.f65]) ?_; simp [Tryz.f65]
  refine AWP.loopL [0, 3] l (fun pre => [(3, .d (.v (.int .i64 pre.length)))]) (fun _ => []) (fun pre => allB int16 pre = true) (by rfl) (by omega) (by simp [allB_nil]) ?_ ?_
  · rintro pre x post hsp hH hlt hge a4
    have hall := allB_split hsp hH
    clear hsp
    simp [*]
    refine AOps.pureC rfl (refIs_ok x) (by simp) rfl (by simp) rfl ?_
    simp
    simp_all [allB_snoc]
  · intro hH
    simp [*]
def smallB (c : Int) : Bool := fromB c 97 122
def greatB (c : Int) : Bool := fromB c 65 90
def digitB (c : Int) : Bool := fromB c 48 57
def rowB (c : Int) : Bool := smallB c || greatB c || digitB c || c == 45 || c == 39
def txtB (c : UInt8) : Bool := !((decide ((c.toNat : Int) < 32) || decide ((c.toNat : Int) > 126)) && (c.toNat : Int) != 10)
def wrdB (c : UInt8) : Bool := rowB c.toNat && !greatB c.toNat
def isTextB (s : ByteArray) : Bool := allB txtB s.data.toList && decide (s.size ≤ 1024)
def isWordB (s : ByteArray) : Bool := decide (1 ≤ s.size) && decide (s.size ≤ 9) && (smallB (s.data.toList[0]?.getD 0).toNat || digitB (s.data.toList[0]?.getD 0).toNat) && allB wrdB s.data.toList
theorem refSmall_ok (c : Int) : Pure Tryz.prog 158 [.d (.v (.int .u8 c))] (.d (.v (.bool (smallB c)))) := by
  unfold smallB fromB
  refine Pure.run Tryz.func158 rfl (by simp [Tryz.f158]) ?_; simp [Tryz.f158]
theorem refGreat_ok (c : Int) : Pure Tryz.prog 161 [.d (.v (.int .u8 c))] (.d (.v (.bool (greatB c)))) := by
  unfold greatB fromB
  refine Pure.run Tryz.func161 rfl (by simp [Tryz.f161]) ?_; simp [Tryz.f161]
theorem refDigit_ok (c : Int) : Pure Tryz.prog 159 [.d (.v (.int .u8 c))] (.d (.v (.bool (digitB c)))) := by
  unfold digitB fromB
  refine Pure.run Tryz.func159 rfl (by simp [Tryz.f159]) ?_; simp [Tryz.f159]
theorem refRow_ok (c : Int) : Pure Tryz.prog 160 [.d (.v (.int .u8 c))] (.d (.v (.bool (rowB c)))) := by
  unfold rowB
  refine Pure.run Tryz.func160 rfl (by simp [Tryz.f160]) ?_; simp [-cB, Tryz.f160]
  repeat' (first
    | (with_reducible refine And.intro ?_ ?_)
    | (refine condC_split (fun h => ?_) (fun h => ?_) <;> (try simp at h) <;> (try simp [-cB, *]))
    | (refine AOps.pureC rfl (refSmall_ok _) rfl rfl (by simp) rfl ?_ <;> (try simp [-cB, *]))
    | (refine AOps.pureC rfl (refGreat_ok _) rfl rfl (by simp) rfl ?_ <;> (try simp [-cB, *]))
    | (refine AOps.pureC rfl (refDigit_ok _) rfl rfl (by simp) rfl ?_ <;> (try simp [-cB, *]))
    | (refine AOps.lendC rfl (refSmall_ok _) rfl (by simp) rfl rfl (by simp) rfl ?_ <;> (try simp [-cB, *]))
    | (refine AOps.lendC rfl (refGreat_ok _) rfl (by simp) rfl rfl (by simp) rfl ?_ <;> (try simp [-cB, *]))
    | (refine AOps.lendC rfl (refDigit_ok _) rfl (by simp) rfl rfl (by simp) rfl ?_ <;> (try simp [-cB, *]))
    | (refine AOps.pureG rfl (fun h => refSmall_ok _) rfl (by first | rfl | (simp; rfl)) (by simp) (by simp) rfl ?_ <;> (try simp [-cB, *]))
    | (refine AOps.pureG rfl (fun h => refGreat_ok _) rfl (by first | rfl | (simp; rfl)) (by simp) (by simp) rfl ?_ <;> (try simp [-cB, *]))
    | (refine AOps.pureG rfl (fun h => refDigit_ok _) rfl (by first | rfl | (simp; rfl)) (by simp) (by simp) rfl ?_ <;> (try simp [-cB, *]))
    | (with_reducible intro _))
theorem refIsText_ok (s : ByteArray) (hs : s.size ≤ 1000000000000000) : Pure Tryz.prog 66 [.d (.v (.string s))] (.d (.v (.bool (isTextB s)))) := by
  have hsz : s.data.toList.length = s.size := rfl
  unfold isTextB
  refine Pure.run Tryz.func66 rfl (by simp [Tryz.f66]) ?_; simp [Tryz.f66]
  refine AWP.loopL [0, 3] s.data.toList (fun pre => [(3, .d (.v (.int .i64 pre.length)))]) (fun _ => []) (fun pre => allB txtB pre = true) (by rfl) (by omega) (by simp [allB_nil]) ?_ ?_
  · rintro pre x post hsp hH hlt hge a4
    have hall := allB_split hsp hH
    have hge2 : s.data[pre.length]'hlt = x := by simpa using hge
    rw [hsz] at hlt
    clear hsp hge
    simp [*]
    have : txtB x = true ↔ ((x.toNat : Int) < 32 ∨ 126 < (x.toNat : Int) → (x.toNat : Int) = 10) := by simp [txtB]; omega
    refine ⟨fun h1 h2 h3 => (h2 ((this.1 h3) h1)).elim, fun h => ?_⟩
    simp [allB_snoc, hH, this.2 h]
  · intro hH
    simp [*]
    omega
theorem refIsWord_ok (s : ByteArray) (hs : s.size ≤ 1000000000000000) : Pure Tryz.prog 119 [.d (.v (.string s))] (.d (.v (.bool (isWordB s)))) := by
  have hsz : s.data.toList.length = s.size := rfl
  unfold isWordB
  refine Pure.run Tryz.func119 rfl (by simp [Tryz.f119]) ?_; simp [-cB, Tryz.f119]
  repeat' (first
    | (with_reducible refine And.intro ?_ ?_)
    | (refine condC_split (fun h => ?_) (fun h => ?_) <;> (try simp at h) <;> (try simp [-cB, *]))
    | (refine AOps.pureC rfl (refSmall_ok _) rfl rfl (by simp) rfl ?_ <;> (try simp [-cB, *]))
    | (refine AOps.pureC rfl (refDigit_ok _) rfl rfl (by simp) rfl ?_ <;> (try simp [-cB, *]))
    | (refine AOps.lendC rfl (refSmall_ok _) rfl (by simp) rfl rfl (by simp) rfl ?_ <;> (try simp [-cB, *]))
    | (refine AOps.lendC rfl (refDigit_ok _) rfl (by simp) rfl rfl (by simp) rfl ?_ <;> (try simp [-cB, *]))
    | (refine AOps.pureG rfl (fun h => refSmall_ok _) rfl (by first | rfl | (simp; rfl)) (by simp) (by simp) rfl ?_ <;> (try simp [-cB, *]))
    | (refine AOps.pureG rfl (fun h => refDigit_ok _) rfl (by first | rfl | (simp; rfl)) (by simp) (by simp) rfl ?_ <;> (try simp [-cB, *]))
    | (with_reducible intro _))
  all_goals first | omega | assumption | skip
  · generalize smallB ↑(s.data[0]?.getD 0).toNat = p at *
    generalize digitB ↑(s.data[0]?.getD 0).toNat = q at *
    rename_i h1 h2 h3
    rcases h with (h | h) | ⟨h, h'⟩
    · omega
    · omega
    · simp [h, h'] at h3
  · refine AWP.loopL [0, 3] s.data.toList (fun pre => [(3, .d (.v (.int .i64 pre.length)))]) (fun _ => []) (fun pre => allB wrdB pre = true) (by rfl) (by omega) (by simp [allB_nil]) ?_ ?_
    · rintro pre x post hsp hH hlt hge a4
      have hall := allB_split hsp hH
      have hge2 : s.data[pre.length]'hlt = x := by simpa using hge
      rw [hsz] at hlt
      clear hsp hge
      have hsn : allB wrdB (pre ++ [x]) = wrdB x := by simp [allB_snoc, hH]
      have hx : wrdB x = (rowB x.toNat && !greatB x.toNat) := rfl
      simp [-cB, *]
      repeat' (first
        | (with_reducible refine And.intro ?_ ?_)
        | (refine condC_split (fun h => ?_) (fun h => ?_) <;> (try simp at h) <;> (try simp [-cB, *]))
        | (refine AOps.pureC rfl (refRow_ok _) rfl rfl (by simp) rfl ?_ <;> (try simp [-cB, *]))
        | (refine AOps.pureC rfl (refGreat_ok _) rfl rfl (by simp) rfl ?_ <;> (try simp [-cB, *]))
        | (refine AOps.lendC rfl (refRow_ok _) rfl (by simp) rfl rfl (by simp) rfl ?_ <;> (try simp [-cB, *]))
        | (refine AOps.lendC rfl (refGreat_ok _) rfl (by simp) rfl rfl (by simp) rfl ?_ <;> (try simp [-cB, *]))
        | (refine AOps.pureG rfl (fun h => refRow_ok _) rfl (by first | rfl | (simp; rfl)) (by simp) (by simp) rfl ?_ <;> (try simp [-cB, *]))
        | (refine AOps.pureG rfl (fun h => refGreat_ok _) rfl (by first | rfl | (simp; rfl)) (by simp) (by simp) rfl ?_ <;> (try simp [-cB, *]))
        | (with_reducible intro _))
      all_goals (first | assumption | omega | (rw [inR_i64]; omega) | (simp_all; done) | grind | skip)
    · intro hH
      simp [*]
      all_goals (first | assumption | omega | (rw [inR_i64]; omega) | (simp_all; done) | grind | skip)
def textB (t : GTables) (n : Int) (none : Bool) : Bool := fromB n 0 (t.Texts.length - 1) || (none && decide (n = -1))
def routB (t : GTables) (n : Int) (none : Bool) : Bool := (none && decide (n = -1)) || (fromB n 0 (t.Params.length - 1) && decide (t.Params[n.toNat]?.getD 0 = 0))
def thingB (t : GTables) (n : Int) : Bool := fromB n 1 (t.Things.length - 1)
theorem refText_ok (t : GTables) (ht : t.wf) (n : Int) (none : Bool) : Pure Tryz.prog 63 [.agg (t.enc.map .d), .d (.v (.int .i64 n)), .d (.v (.bool none))] (.d (.v (.bool (textB t n none)))) := by
  have hlen : t.Texts.length ≤ 1000000000000000 := by have := ht; simp [GTables.wf] at this; omega
  unfold textB
  refine Pure.run Tryz.func63 rfl (by simp [Tryz.f63]) ?_; simp [-cB, Tryz.f63]
  repeat' (first
    | (with_reducible refine And.intro ?_ ?_)
    | (refine condC_split (fun h => ?_) (fun h => ?_) <;> (try simp at h) <;> (try simp [-cB, *]))
    | (refine AOps.pureC rfl (refFrom_ok _ _ _) rfl rfl (by simp) rfl ?_ <;> (try simp [-cB, *]))
    | (refine AOps.lendC rfl (refFrom_ok _ _ _) rfl (by simp) rfl rfl (by simp) rfl ?_ <;> (try simp [-cB, *]))
    | (refine AOps.pureG rfl (fun h => refFrom_ok _ _ _) rfl (by first | rfl | (simp; rfl)) (by simp) (by simp) rfl ?_ <;> (try simp [-cB, *]))
    | (with_reducible intro _))
  all_goals (first | assumption | omega | (rw [inR_i64]; omega) | (simp_all [fromB]; done) | grind [fromB] | skip)
theorem refThing_ok (t : GTables) (ht : t.wf) (n : Int) : Pure Tryz.prog 70 [.agg (t.enc.map .d), .d (.v (.int .i64 n))] (.d (.v (.bool (thingB t n)))) := by
  have hlen : t.Things.length ≤ 1000000000000000 := by have := ht; simp [GTables.wf] at this; omega
  unfold thingB
  refine Pure.run Tryz.func70 rfl (by simp [Tryz.f70]) ?_; simp [-cB, Tryz.f70]
  repeat' (first
    | (with_reducible refine And.intro ?_ ?_)
    | (refine condC_split (fun h => ?_) (fun h => ?_) <;> (try simp at h) <;> (try simp [-cB, *]))
    | (refine AOps.pureC rfl (refFrom_ok _ _ _) rfl rfl (by simp) rfl ?_ <;> (try simp [-cB, *]))
    | (refine AOps.lendC rfl (refFrom_ok _ _ _) rfl (by simp) rfl rfl (by simp) rfl ?_ <;> (try simp [-cB, *]))
    | (refine AOps.pureG rfl (fun h => refFrom_ok _ _ _) rfl (by first | rfl | (simp; rfl)) (by simp) (by simp) rfl ?_ <;> (try simp [-cB, *]))
    | (with_reducible intro _))
  all_goals (first | assumption | omega | (rw [inR_i64]; omega) | (simp_all [fromB]; done) | grind [fromB] | skip)
theorem refRoutine_ok (t : GTables) (ht : t.wf) (n : Int) (none : Bool) : Pure Tryz.prog 75 [.agg (t.enc.map .d), .d (.v (.int .i64 n)), .d (.v (.bool none))] (.d (.v (.bool (routB t n none)))) := by
  have hlen : t.Params.length ≤ 1000000000000000 := by have := ht; simp [GTables.wf] at this; omega
  unfold routB
  refine Pure.run Tryz.func75 rfl (by simp [Tryz.f75]) ?_; simp [-cB, Tryz.f75]
  repeat' (first
    | (with_reducible refine And.intro ?_ ?_)
    | (refine condC_split (fun h => ?_) (fun h => ?_) <;> (try simp at h) <;> (try simp [-cB, *]))
    | (refine AOps.pureC rfl (refFrom_ok _ _ _) rfl rfl (by simp) rfl ?_ <;> (try simp [-cB, *]))
    | (refine AOps.lendC rfl (refFrom_ok _ _ _) rfl (by simp) rfl rfl (by simp) rfl ?_ <;> (try simp [-cB, *]))
    | (refine AOps.pureG rfl (fun h => refFrom_ok _ _ _) rfl (by first | rfl | (simp; rfl)) (by simp) (by simp) rfl ?_ <;> (try simp [-cB, *]))
    | (with_reducible intro _))
  all_goals (first | assumption | omega | (rw [inR_i64]; omega) | (simp_all [fromB]; done) | grind [fromB] | skip)
def wordsB (l : List ByteArray) (most : Int) : Bool := allB isWordB l && decide ((l.length : Int) ≤ most)
theorem refWords_ok (l : List ByteArray) (hl : l.length ≤ 1000000000000000) (hs : ∀ x ∈ l, x.size ≤ 1000000000000000) (most : Int) : Pure Tryz.prog 69 [.d (.sl (encS l)), .d (.v (.int .i64 most))] (.d (.v (.bool (wordsB l most)))) := by
  unfold wordsB
  refine Pure.run Tryz.func69 rfl (by simp [Tryz.f69]) ?_; simp [Tryz.f69]
  refine AWP.loopL [0, 1, 5] l (fun pre => [(5, .d (.v (.int .i64 pre.length)))]) (fun _ => []) (fun pre => allB isWordB pre = true) (by rfl) (by omega) (by simp [allB_nil]) ?_ ?_
  · rintro pre x post hsp hH hlt hge a4
    have hall := allB_split hsp hH
    have hx := refIsWord_ok x (hs x (by rw [hsp]; simp))
    have hsn : allB isWordB (pre ++ [x]) = isWordB x := by simp [allB_snoc, hH]
    clear hsp
    simp [-cB, *]
    repeat' (first
      | (with_reducible refine And.intro ?_ ?_)
      | (refine condC_split (fun h => ?_) (fun h => ?_) <;> (try simp at h) <;> (try simp [-cB, *]))
      | (refine AOps.pureC rfl (hx) rfl rfl (by simp) rfl ?_ <;> (try simp [-cB, *]))
      | (refine AOps.lendC rfl (hx) rfl (by simp) rfl rfl (by simp) rfl ?_ <;> (try simp [-cB, *]))
      | (refine AOps.pureG rfl (fun h => hx) rfl (by first | rfl | (simp; rfl)) (by simp) (by simp) rfl ?_ <;> (try simp [-cB, *]))
      | (with_reducible intro _))
    all_goals (first | assumption | omega | (rw [inR_i64]; omega) | (simp_all; done) | grind | skip)
  · intro hH
    simp [*]
def nothingB (t : GTables) (x : GThing) : Bool :=
  decide (x.Title = 0) && decide (x.Text = -1) && decide (x.Parent = 0) && decide (x.Flags = 0) && !x.Room && decide (x.Props.length = t.Props.length) && decide (x.Words.length + x.Adjs.length + x.Ways.length = 0) && allB (fun n => decide (n = 0)) x.Props
set_option maxRecDepth 20000 in
theorem refNothing_ok (t : GTables) (ht : t.wf) (x : GThing) (hx : x.wf) : Pure Tryz.prog 67 [.agg (t.enc.map .d), .agg (x.enc.map .d)] (.d (.v (.bool (nothingB t x)))) := by
  have hx' := hx
  simp [GThing.wf] at hx'
  unfold nothingB
  refine Pure.run Tryz.func67 rfl (by simp [Tryz.f67]) ?_; simp [-cB, Tryz.f67]
  repeat' (first
    | (with_reducible refine And.intro ?_ ?_)
    | (refine condC_split (fun h => ?_) (fun h => ?_) <;> (try simp at h) <;> (try simp [-cB, *]))
    | (refine AOps.pureC rfl (refFrom_ok _ _ _) rfl rfl (by simp) rfl ?_ <;> (try simp [-cB, *]))
    | (refine AOps.lendC rfl (refFrom_ok _ _ _) rfl (by simp) rfl rfl (by simp) rfl ?_ <;> (try simp [-cB, *]))
    | (refine AOps.pureG rfl (fun h => refFrom_ok _ _ _) rfl (by first | rfl | (simp; rfl)) (by simp) (by simp) rfl ?_ <;> (try simp [-cB, *]))
    | (with_reducible intro _))
  obtain ⟨-, -, -, -, hq1, -, hq2, -, hq3, -, hq4, -⟩ := hx'
  all_goals (first | assumption | omega | (rw [inR_i64]; omega) | (simp_all; done) | grind | skip)
  have hz : decide (x.Words = []) = true ∧ decide (x.Adjs = []) = true ∧ decide (x.Ways = []) = true := by
    have h1 : x.Words.length = 0 := by omega
    have h2 : x.Adjs.length = 0 := by omega
    have h3 : x.Ways.length = 0 := by omega
    simp [List.length_eq_zero_iff] at h1 h2 h3
    simp [h1, h2, h3]
  have hp : decide (x.Props.length = t.Props.length) = true := by simp; omega
  refine AWP.loopL [3, 5] x.Props (fun pre => [(5, .d (.v (.int .i64 pre.length)))]) (fun _ => []) (fun pre => allB (fun n => decide (n = 0)) pre = true) (by rfl) (by omega) (by simp [allB_nil]) ?_ ?_
  · rintro pre x1 post hsp hH hlt hge a4
    have hall := allB_split hsp hH
    have hsn : allB (fun n => decide (n = 0)) (pre ++ [x1]) = decide (x1 = 0) := by simp [allB_snoc, hH]
    clear hsp h
    simp [-cB, *]
    repeat' (first
      | (with_reducible refine And.intro ?_ ?_)
      | (refine condC_split (fun h => ?_) (fun h => ?_) <;> (try simp at h) <;> (try simp [-cB, *]))
      | (refine AOps.pureC rfl (refRow_ok _) rfl rfl (by simp) rfl ?_ <;> (try simp [-cB, *]))
      | (refine AOps.lendC rfl (refRow_ok _) rfl (by simp) rfl rfl (by simp) rfl ?_ <;> (try simp [-cB, *]))
      | (refine AOps.pureG rfl (fun h => refRow_ok _) rfl (by first | rfl | (simp; rfl)) (by simp) (by simp) rfl ?_ <;> (try simp [-cB, *]))
      | (with_reducible intro _))
    all_goals (first | assumption | omega | (rw [inR_i64]; omega) | (simp_all; done) | grind | skip)
  · intro hH
    clear h
    simp [*]
def bitsM (n : Int) : Int := 2 ^ (min n.toNat 16)
theorem refBits_ok (n : Int) : Pure Tryz.prog 68 [.d (.v (.int .i64 n))] (.d (.v (.int .i64 (bitsM n)))) := by
  refine Pure.run Tryz.func68 rfl (by simp [Tryz.f68]) ?_; simp [Tryz.f68]
  refine AWP.loopS [0, 3, 4] (min n.toNat 16) (fun i => [(3, .d (.v (.int .i64 (2 ^ i)))), (4, .d (.v (.int .i64 i)))]) (fun _ => []) (fun _ => True) (by rfl) (by simp) ?_
  intro i hi _
  have h16 : i ≤ 16 := by omega
  have hp : (2 : Int) ^ i ≤ 65536 ∧ (0 : Int) < 2 ^ i := by
    have e : (2 : Int) ^ i = ((2 ^ i : Nat) : Int) := by simp
    have := Nat.pow_le_pow_right (n := 2) (by decide) h16
    have := Nat.pow_pos (a := 2) (n := i) (by decide)
    rw [e]; omega
  have hs : (2 : Int) ^ (i + 1) = 2 * 2 ^ i := by rw [Int.pow_succ]; omega
  simp
  refine ⟨fun h1 h2 => ⟨by rw [inR_i64]; omega, by rw [inR_i64]; omega, by omega, by omega⟩, fun h => ?_⟩
  unfold bitsM
  rw [show min n.toNat 16 = i by omega]
end Go.Ab

namespace Go.Ab
open Go.Proofs
def wrapM (n : Int) : Int := IntKind.wrap .i16 n
theorem wrapM_eq n : wrapM n = (n + 32768) % 65536 - 32768 := by
  grind [wrapM, IntKind.wrap, IntKind.signed, IntKind.bits]
theorem Pure.none {f : FuncId} {args : List V} {x : V} (h : False) : Pure Tryz.prog f args x := h.elim
theorem wrapM_bd n : -32768 ≤ wrapM n ∧ wrapM n ≤ 32767 := by grind [wrapM_eq]
theorem wrapM_id {n} (h : -32768 ≤ n ∧ n ≤ 32767) : wrapM n = n := by grind [wrapM_eq]
theorem wrapM_wrapM n : wrapM (wrapM n) = wrapM n := wrapM_id (wrapM_bd n)
theorem wrap64 {n} (h : inR .i64 n) : IntKind.wrap .i64 n = n := by
  grind [inR_i64, IntKind.wrap, IntKind.signed, IntKind.bits]
theorem refWrap_ok (n : Int) : Pure Tryz.prog 32 [.d (.v (.int .i64 n))] (.d (.v (.int .i64 (wrapM n)))) := by
  have h0 := wrapM_eq n
  have h1 : n.tmod 65536 = if 0 ≤ n then n % 65536 else -((-n) % 65536) := by
    split
    · rename_i h; exact Int.tmod_eq_emod_of_nonneg h
    · rename_i h
      have := Int.neg_tmod (a := -n) (b := 65536)
      rw [Int.neg_neg] at this
      rw [this, Int.tmod_eq_emod_of_nonneg (by omega)]
  refine Pure.run Tryz.func32 rfl (by simp [Tryz.f32]) ?_; simp [-cB, Tryz.f32]
  generalize n.tmod 65536 = m at *
  generalize hr : wrapM n = r at *
  repeat' (first
    | (with_reducible refine And.intro ?_ ?_)
    | (refine condC_split (fun h => ?_) (fun h => ?_) <;> (try simp at h) <;> (try simp [-cB, *]))
    | (refine AOps.pureC rfl (Pure.none) rfl rfl (by simp) rfl ?_ <;> (try simp [-cB, *]))
    | (refine AOps.lendC rfl (Pure.none) rfl (by simp) rfl rfl (by simp) rfl ?_ <;> (try simp [-cB, *]))
    | (refine AOps.pureG rfl (fun h => Pure.none) rfl (by first | rfl | (simp; rfl)) (by simp) (by simp) rfl ?_ <;> (try simp [-cB, *]))
    | (with_reducible intro _))
  all_goals (try rw [inR_i64])
  all_goals (split at h1 <;> omega)
theorem wrap_ok (n : Int) : Pure Tryz.prog 111 [.d (.v (.int .i64 n))] (.d (.v (.int .i64 (wrapM n)))) := by
  have h0 : inR .i64 (wrapM n) := by have := wrapM_bd n; rw [inR_i64]; omega
  have h1 := wrap64 h0
  refine Pure.run Tryz.func111 rfl (by simp [Tryz.f111]) ?_; simp [-cB, Tryz.f111]
  exact h1
def addM (a b : Int) : Int := wrapM (wrapM a + wrapM b)
def subM (a b : Int) : Int := wrapM (wrapM a - wrapM b)
def mulM (a b : Int) : Int := wrapM (wrapM a * wrapM b)
def negM (a : Int) : Int := wrapM (0 - wrapM a)
def divM (a b : Int) : Int × Int := if wrapM b = 0 then (0, 1) else (wrapM ((wrapM a).tdiv (wrapM b)), 0)
def modM (a b : Int) : Int × Int := if wrapM b = 0 then (0, 1) else (wrapM ((wrapM a).tmod (wrapM b)), 0)
theorem mul_bd {a b : Int} (ha : -32768 ≤ a ∧ a ≤ 32767) (hb : -32768 ≤ b ∧ b ≤ 32767) : -1073741824 ≤ a * b ∧ a * b ≤ 1073741824 := by
  have h1 : a * b ≤ a.natAbs * b.natAbs := by
    have : (a * b).natAbs = a.natAbs * b.natAbs := Int.natAbs_mul a b
    omega
  have h2 : -(a.natAbs * b.natAbs : Int) ≤ a * b := by
    have : (a * b).natAbs = a.natAbs * b.natAbs := Int.natAbs_mul a b
    omega
  have h3 : a.natAbs * b.natAbs ≤ 32768 * 32768 := Nat.mul_le_mul (by omega) (by omega)
  omega
def pr2 (p : Int × Int) : V := .tup [.d (.v (.int .i64 p.1)), .d (.v (.int .i64 p.2))]
theorem refAdd_ok (a b : Int) : Pure Tryz.prog 153 [.d (.v (.int .i64 a)), .d (.v (.int .i64 b))] (.d (.v (.int .i64 (addM a b)))) := by
  have ha := wrapM_bd a
  have hb := wrapM_bd b
  have h : inR .i64 (wrapM a + wrapM b) := by rw [inR_i64]; omega
  refine Pure.run Tryz.func153 rfl (by simp [Tryz.f153]) ?_; simp [-cB, Tryz.f153]
  try intro (_ : Nat → Nat)
  repeat' (first
    | (with_reducible refine And.intro ?_ ?_)
    | (refine condC_split (fun h => ?_) (fun h => ?_) <;> (try simp at h) <;> (try simp [-cB, *]))
    | (refine AOps.pureC rfl (refWrap_ok _) rfl rfl (by simp) rfl ?_ <;> (try simp [-cB, *]))
    | (refine AOps.lendC rfl (refWrap_ok _) rfl (by simp) rfl rfl (by simp) rfl ?_ <;> (try simp [-cB, *]))
    | (refine AOps.pureG rfl (fun h => refWrap_ok _) rfl (by first | rfl | (simp; rfl)) (by simp) (by simp) rfl ?_ <;> (try simp [-cB, *]))
    | (with_reducible intro _))
  rfl
theorem refSub_ok (a b : Int) : Pure Tryz.prog 154 [.d (.v (.int .i64 a)), .d (.v (.int .i64 b))] (.d (.v (.int .i64 (subM a b)))) := by
  have ha := wrapM_bd a
  have hb := wrapM_bd b
  have h : inR .i64 (wrapM a - wrapM b) := by rw [inR_i64]; omega
  refine Pure.run Tryz.func154 rfl (by simp [Tryz.f154]) ?_; simp [-cB, Tryz.f154]
  try intro (_ : Nat → Nat)
  repeat' (first
    | (with_reducible refine And.intro ?_ ?_)
    | (refine condC_split (fun h => ?_) (fun h => ?_) <;> (try simp at h) <;> (try simp [-cB, *]))
    | (refine AOps.pureC rfl (refWrap_ok _) rfl rfl (by simp) rfl ?_ <;> (try simp [-cB, *]))
    | (refine AOps.lendC rfl (refWrap_ok _) rfl (by simp) rfl rfl (by simp) rfl ?_ <;> (try simp [-cB, *]))
    | (refine AOps.pureG rfl (fun h => refWrap_ok _) rfl (by first | rfl | (simp; rfl)) (by simp) (by simp) rfl ?_ <;> (try simp [-cB, *]))
    | (with_reducible intro _))
  rfl
theorem refMul_ok (a b : Int) : Pure Tryz.prog 155 [.d (.v (.int .i64 a)), .d (.v (.int .i64 b))] (.d (.v (.int .i64 (mulM a b)))) := by
  have h : inR .i64 (wrapM a * wrapM b) := by have := mul_bd (wrapM_bd a) (wrapM_bd b); rw [inR_i64]; omega
  refine Pure.run Tryz.func155 rfl (by simp [Tryz.f155]) ?_; simp [-cB, Tryz.f155]
  try intro (_ : Nat → Nat)
  repeat' (first
    | (with_reducible refine And.intro ?_ ?_)
    | (refine condC_split (fun h => ?_) (fun h => ?_) <;> (try simp at h) <;> (try simp [-cB, *]))
    | (refine AOps.pureC rfl (refWrap_ok _) rfl rfl (by simp) rfl ?_ <;> (try simp [-cB, *]))
    | (refine AOps.lendC rfl (refWrap_ok _) rfl (by simp) rfl rfl (by simp) rfl ?_ <;> (try simp [-cB, *]))
    | (refine AOps.pureG rfl (fun h => refWrap_ok _) rfl (by first | rfl | (simp; rfl)) (by simp) (by simp) rfl ?_ <;> (try simp [-cB, *]))
    | (with_reducible intro _))
  rfl
theorem refNeg_ok (a : Int) : Pure Tryz.prog 115 [.d (.v (.int .i64 a))] (.d (.v (.int .i64 (negM a)))) := by
  have h : inR .i64 (0 - wrapM a) := by have := wrapM_bd a; rw [inR_i64]; omega
  rw [negM]
  generalize hx : 0 - wrapM a = x at *
  refine Pure.run Tryz.func115 rfl (by simp [Tryz.f115]) ?_; simp [-cB, Tryz.f115]
  try intro (_ : Nat → Nat)
  repeat' (first
    | (with_reducible refine And.intro ?_ ?_)
    | (refine condC_split (fun h => ?_) (fun h => ?_) <;> (try simp at h) <;> (try simp [-cB, *, hx]))
    | (refine AOps.pureC rfl (refWrap_ok _) rfl rfl (by simp) rfl ?_ <;> (try simp [-cB, *, hx]))
    | (refine AOps.lendC rfl (refWrap_ok _) rfl (by simp) rfl rfl (by simp) rfl ?_ <;> (try simp [-cB, *, hx]))
    | (refine AOps.pureG rfl (fun h => refWrap_ok _) rfl (by first | rfl | (simp; rfl)) (by simp) (by simp) rfl ?_ <;> (try simp [-cB, *, hx]))
    | (with_reducible intro _))
theorem add_ok (a b : Int) : Pure Tryz.prog 147 [.d (.v (.int .i64 a)), .d (.v (.int .i64 b))] (.d (.v (.int .i64 (addM a b)))) := by
  have ha := wrapM_bd a
  have hb := wrapM_bd b
  have h : inR .i64 (wrapM a + wrapM b) := by rw [inR_i64]; omega
  refine Pure.run Tryz.func147 rfl (by simp [Tryz.f147]) ?_; simp [-cB, Tryz.f147]
  try intro (_ : Nat → Nat)
  repeat' (first
    | (with_reducible refine And.intro ?_ ?_)
    | (refine condC_split (fun h => ?_) (fun h => ?_) <;> (try simp at h) <;> (try simp [-cB, *]))
    | (refine AOps.pureC rfl (wrap_ok _) rfl rfl (by simp) rfl ?_ <;> (try simp [-cB, *]))
    | (refine AOps.lendC rfl (wrap_ok _) rfl (by simp) rfl rfl (by simp) rfl ?_ <;> (try simp [-cB, *]))
    | (refine AOps.pureG rfl (fun h => wrap_ok _) rfl (by first | rfl | (simp; rfl)) (by simp) (by simp) rfl ?_ <;> (try simp [-cB, *]))
    | (with_reducible intro _))
  rfl
theorem sub_ok (a b : Int) : Pure Tryz.prog 148 [.d (.v (.int .i64 a)), .d (.v (.int .i64 b))] (.d (.v (.int .i64 (subM a b)))) := by
  have ha := wrapM_bd a
  have hb := wrapM_bd b
  have h : inR .i64 (wrapM a - wrapM b) := by rw [inR_i64]; omega
  refine Pure.run Tryz.func148 rfl (by simp [Tryz.f148]) ?_; simp [-cB, Tryz.f148]
  try intro (_ : Nat → Nat)
  repeat' (first
    | (with_reducible refine And.intro ?_ ?_)
    | (refine condC_split (fun h => ?_) (fun h => ?_) <;> (try simp at h) <;> (try simp [-cB, *]))
    | (refine AOps.pureC rfl (wrap_ok _) rfl rfl (by simp) rfl ?_ <;> (try simp [-cB, *]))
    | (refine AOps.lendC rfl (wrap_ok _) rfl (by simp) rfl rfl (by simp) rfl ?_ <;> (try simp [-cB, *]))
    | (refine AOps.pureG rfl (fun h => wrap_ok _) rfl (by first | rfl | (simp; rfl)) (by simp) (by simp) rfl ?_ <;> (try simp [-cB, *]))
    | (with_reducible intro _))
  rfl
theorem mul_ok (a b : Int) : Pure Tryz.prog 149 [.d (.v (.int .i64 a)), .d (.v (.int .i64 b))] (.d (.v (.int .i64 (mulM a b)))) := by
  have h : inR .i64 (wrapM a * wrapM b) := by have := mul_bd (wrapM_bd a) (wrapM_bd b); rw [inR_i64]; omega
  refine Pure.run Tryz.func149 rfl (by simp [Tryz.f149]) ?_; simp [-cB, Tryz.f149]
  try intro (_ : Nat → Nat)
  repeat' (first
    | (with_reducible refine And.intro ?_ ?_)
    | (refine condC_split (fun h => ?_) (fun h => ?_) <;> (try simp at h) <;> (try simp [-cB, *]))
    | (refine AOps.pureC rfl (wrap_ok _) rfl rfl (by simp) rfl ?_ <;> (try simp [-cB, *]))
    | (refine AOps.lendC rfl (wrap_ok _) rfl (by simp) rfl rfl (by simp) rfl ?_ <;> (try simp [-cB, *]))
    | (refine AOps.pureG rfl (fun h => wrap_ok _) rfl (by first | rfl | (simp; rfl)) (by simp) (by simp) rfl ?_ <;> (try simp [-cB, *]))
    | (with_reducible intro _))
  rfl
theorem neg_ok (a : Int) : Pure Tryz.prog 112 [.d (.v (.int .i64 a))] (.d (.v (.int .i64 (negM a)))) := by
  have h : inR .i64 (- wrapM a) := by have := wrapM_bd a; rw [inR_i64]; omega
  rw [negM, Int.zero_sub]
  refine Pure.run Tryz.func112 rfl (by simp [Tryz.f112]) ?_; simp [-cB, Tryz.f112]
  try intro (_ : Nat → Nat)
  repeat' (first
    | (with_reducible refine And.intro ?_ ?_)
    | (refine condC_split (fun h => ?_) (fun h => ?_) <;> (try simp at h) <;> (try simp [-cB, *]))
    | (refine AOps.pureC rfl (wrap_ok _) rfl rfl (by simp) rfl ?_ <;> (try simp [-cB, *]))
    | (refine AOps.lendC rfl (wrap_ok _) rfl (by simp) rfl rfl (by simp) rfl ?_ <;> (try simp [-cB, *]))
    | (refine AOps.pureG rfl (fun h => wrap_ok _) rfl (by first | rfl | (simp; rfl)) (by simp) (by simp) rfl ?_ <;> (try simp [-cB, *]))
    | (with_reducible intro _))
theorem tdiv_bd {a b : Int} (ha : -32768 ≤ a ∧ a ≤ 32767) : -32768 ≤ a.tdiv b ∧ a.tdiv b ≤ 32768 := by
  have : (a.tdiv b).natAbs ≤ a.natAbs := by rw [Int.natAbs_tdiv]; exact Nat.div_le_self _ _
  omega
theorem i64_tdiv {a b : Int} (ha : -32768 ≤ a ∧ a ≤ 32767) : IntKind.wrap .i64 (a.tdiv b) = a.tdiv b := wrap64 (by have := tdiv_bd (b := b) ha; rw [inR_i64]; omega)
theorem tmod_bd {a b : Int} (ha : -32768 ≤ a ∧ a ≤ 32767) : -32768 ≤ a.tmod b ∧ a.tmod b ≤ 32767 := by
  have h1 : (a.tmod b).natAbs = a.natAbs % b.natAbs := Int.natAbs_tmod a b
  have h2 : a.natAbs % b.natAbs ≤ a.natAbs := Nat.mod_le _ _
  have h3 : 0 ≤ a → 0 ≤ a.tmod b := fun h => Int.tmod_nonneg _ h
  have h4 : a < 0 → a.tmod b ≤ 0 := fun h => by
    have := Int.tmod_nonneg b (a := -a) (by omega)
    rw [Int.neg_tmod] at this
    omega
  generalize a.natAbs % b.natAbs = q at *
  omega
theorem refDiv_ok (a b : Int) : Pure Tryz.prog 156 [.d (.v (.int .i64 a)), .d (.v (.int .i64 b))] (pr2 (divM a b)) := by
  have h := i64_tdiv (b := wrapM b) (wrapM_bd a)
  unfold pr2 divM
  refine Pure.run Tryz.func156 rfl (by simp [Tryz.f156]) ?_; simp [-cB, Tryz.f156]
  try intro (_ : Nat → Nat)
  repeat' (first
    | (with_reducible refine And.intro ?_ ?_)
    | (refine condC_split (fun h => ?_) (fun h => ?_) <;> (try simp at h) <;> (try simp [-cB, *]))
    | (refine AOps.pureC rfl (refWrap_ok _) rfl rfl (by simp) rfl ?_ <;> (try simp [-cB, *]))
    | (refine AOps.lendC rfl (refWrap_ok _) rfl (by simp) rfl rfl (by simp) rfl ?_ <;> (try simp [-cB, *]))
    | (refine AOps.pureG rfl (fun h => refWrap_ok _) rfl (by first | rfl | (simp; rfl)) (by simp) (by simp) rfl ?_ <;> (try simp [-cB, *]))
    | (with_reducible intro _))
theorem div_ok (a b : Int) : Pure Tryz.prog 150 [.d (.v (.int .i64 a)), .d (.v (.int .i64 b))] (pr2 (divM a b)) := by
  have h := i64_tdiv (b := wrapM b) (wrapM_bd a)
  unfold pr2 divM
  refine Pure.run Tryz.func150 rfl (by simp [Tryz.f150]) ?_; simp [-cB, Tryz.f150]
  try intro (_ : Nat → Nat)
  repeat' (first
    | (with_reducible refine And.intro ?_ ?_)
    | (refine condC_split (fun h => ?_) (fun h => ?_) <;> (try simp at h) <;> (try simp [-cB, *]))
    | (refine AOps.pureC rfl (wrap_ok _) rfl rfl (by simp) rfl ?_ <;> (try simp [-cB, *]))
    | (refine AOps.lendC rfl (wrap_ok _) rfl (by simp) rfl rfl (by simp) rfl ?_ <;> (try simp [-cB, *]))
    | (refine AOps.pureG rfl (fun h => wrap_ok _) rfl (by first | rfl | (simp; rfl)) (by simp) (by simp) rfl ?_ <;> (try simp [-cB, *]))
    | (with_reducible intro _))
theorem refMod_ok (a b : Int) : Pure Tryz.prog 157 [.d (.v (.int .i64 a)), .d (.v (.int .i64 b))] (pr2 (modM a b)) := by
  have h := i64_tdiv (b := wrapM b) (wrapM_bd a)
  have hd := tdiv_bd (b := wrapM b) (wrapM_bd a)
  unfold pr2 modM
  refine Pure.run Tryz.func157 rfl (by simp [Tryz.f157]) ?_; simp [-cB, Tryz.f157]
  try intro (_ : Nat → Nat)
  repeat' (first
    | (with_reducible refine And.intro ?_ ?_)
    | (refine condC_split (fun h => ?_) (fun h => ?_) <;> (try simp at h) <;> (try simp [-cB, *]))
    | (refine AOps.pureC rfl (refWrap_ok _) rfl rfl (by simp) rfl ?_ <;> (try simp [-cB, *]))
    | (refine AOps.lendC rfl (refWrap_ok _) rfl (by simp) rfl rfl (by simp) rfl ?_ <;> (try simp [-cB, *]))
    | (refine AOps.pureG rfl (fun h => refWrap_ok _) rfl (by first | rfl | (simp; rfl)) (by simp) (by simp) rfl ?_ <;> (try simp [-cB, *]))
    | (with_reducible intro _))
  all_goals (have hm := tmod_bd (b := wrapM b) (wrapM_bd a))
  all_goals (have he := Int.tmod_def (wrapM a) (wrapM b))
  all_goals (rw [Int.mul_comm] at he)
  all_goals (have ha := wrapM_bd a)
  · rw [inR_i64]; omega
  · rw [inR_i64]; omega
  · rw [wrapM_id hm]; omega
theorem mod_ok (a b : Int) : Pure Tryz.prog 151 [.d (.v (.int .i64 a)), .d (.v (.int .i64 b))] (pr2 (modM a b)) := by
  unfold pr2 modM
  refine Pure.run Tryz.func151 rfl (by simp [Tryz.f151]) ?_; simp [-cB, Tryz.f151]
  try intro (_ : Nat → Nat)
  repeat' (first
    | (with_reducible refine And.intro ?_ ?_)
    | (refine condC_split (fun h => ?_) (fun h => ?_) <;> (try simp at h) <;> (try simp [-cB, *]))
    | (refine AOps.pureC rfl (wrap_ok _) rfl rfl (by simp) rfl ?_ <;> (try simp [-cB, *]))
    | (refine AOps.lendC rfl (wrap_ok _) rfl (by simp) rfl rfl (by simp) rfl ?_ <;> (try simp [-cB, *]))
    | (refine AOps.pureG rfl (fun h => wrap_ok _) rfl (by first | rfl | (simp; rfl)) (by simp) (by simp) rfl ?_ <;> (try simp [-cB, *]))
    | (with_reducible intro _))
end Go.Ab

namespace Go.Ab
def atI (l : List Int) (i : Int) : Int := if i < 0 then 0 else l[i.toNat]?.getD 0
def isT (n : Nat) (x : Int) : Bool := decide (1 ≤ x ∧ x < n)
theorem isT_iff {n : Nat} {x : Int} : isT n x = true ↔ 1 ≤ x ∧ x < n := by simp [isT]
def chainM (nx : List Int) (n : Nat) : Nat → Int → List Int
  | 0, _ => []
  | k + 1, c => if isT n c then c :: chainM nx n k (atI nx c) else []
inductive Ch (nx : List Int) (n : Nat) : Int → List Int → Prop
  | nil : Ch nx n 0 []
  | cons {c : Int} {l : List Int} (h : 1 ≤ c ∧ c < n) (t : Ch nx n (atI nx c) l) : Ch nx n c (c :: l)
theorem nodup_lt {n : Nat} {l : List Int} (h : l.Nodup) (hm : ∀ x ∈ l, 1 ≤ x ∧ x < n) : l.length < n ∨ l = [] := by
  have key : ∀ (n : Nat) (l : List Int), l.Nodup → (∀ x ∈ l, 1 ≤ x ∧ x < n) → l.length ≤ n - 1 := by
    intro n
    induction n with
    | zero =>
      intro l _ hm
      cases l with
      | nil => simp
      | cons x l => have := hm x List.mem_cons_self; omega
    | succ n ih =>
      intro l hd hm
      by_cases hn : (n : Int) ∈ l
      · have h1 := ih (l.erase n) (hd.erase _) (fun x hx => by
          have h2 := hm x (List.mem_of_mem_erase hx)
          have h3 : x ≠ n := fun e => by subst e; exact (hd.not_mem_erase hx)
          omega)
        rw [List.length_erase_of_mem hn] at h1
        have := List.length_pos_of_mem hn
        have h4 := hm n hn
        omega
      · have := ih l hd (fun x hx => by
          have h2 := hm x hx
          have h3 : x ≠ n := fun e => hn (e ▸ hx)
          omega)
        omega
  cases l with
  | nil => exact .inr rfl
  | cons x l =>
    have := key n _ h hm
    have h2 := hm x List.mem_cons_self
    left
    simp at this ⊢
    omega
structure Tree where
  Par : List Int
  Chi : List Int
  Nxt : List Int
structure Nest (t : Tree) (n : Nat) (ls : Int → List Int) : Prop where
  pos : 0 < n
  lp : t.Par.length = n
  lc : t.Chi.length = n
  ln : t.Nxt.length = n
  p0 : atI t.Par 0 = 0
  c0 : atI t.Chi 0 = 0
  n0 : atI t.Nxt 0 = 0
  ch : ∀ x : Int, 1 ≤ x → x < n → Ch t.Nxt n (atI t.Chi x) (ls x)
  par : ∀ x : Int, 1 ≤ x → x < n → ∀ y ∈ ls x, atI t.Par y = x
  up : ∀ x : Int, 1 ≤ x → x < n → atI t.Par x = 0 ∧ atI t.Nxt x = 0 ∨ (1 ≤ atI t.Par x ∧ atI t.Par x < n) ∧ x ∈ ls (atI t.Par x)
  ends : ∀ x : Int, 1 ≤ x → x < n → ∃ l, Ch t.Par n x l
def kidsM (t : Tree) (x : Int) : List Int := if isT t.Par.length x then chainM t.Nxt t.Par.length t.Par.length (atI t.Chi x) else []
def upsM (t : Tree) (x : Int) : List Int := chainM t.Par t.Par.length t.Par.length x
def topM (t : Tree) (x : Int) : Int := (upsM t x).getLastD 0
def listedB (t : Tree) (x : Int) : Bool :=
  (kidsM t x).all (fun y => decide (atI t.Par y = x) && decide ((kidsM t x).count y = 1)) &&
    decide ((match (kidsM t x).getLast? with | some y => atI t.Nxt y | none => atI t.Chi x) = 0)
end Go.Ab

namespace Go.Ab
open Go.Proofs
def GWorld.tree (w : GWorld) : Tree := ⟨w.Parent, w.Child, w.Next⟩
theorem atI_getD {l} {x} (h : isT l.length x = true) : l[x.toNat]?.getD 0 = atI l x := by
  have := isT_iff.1 h
  rw [atI, if_neg (by omega)]
end Go.Ab

namespace Go.Ab
open Go.Proofs
def nodeB (t : Tree) (x : Int) : Bool :=
  !(decide (atI t.Par x ≠ 0) && !isT t.Par.length (atI t.Par x)) && !(decide (atI t.Par x = 0) && decide (atI t.Nxt x ≠ 0)) && listedB t x &&
    !(decide (atI t.Par x ≠ 0) && decide ((kidsM t (atI t.Par x)).count x ≠ 1)) && !(isT t.Par.length (atI t.Par x) && decide (x ∈ upsM t (atI t.Par x)))
def nestedB (t : Tree) : Bool :=
  decide (t.Par.length ≠ 0) && decide (t.Chi.length = t.Par.length) && decide (t.Nxt.length = t.Par.length) && decide (atI t.Par 0 = 0) && decide (atI t.Chi 0 = 0) && decide (atI t.Nxt 0 = 0) &&
    (List.range (t.Par.length - 1)).all fun k => nodeB t (k + 1)
end Go.Ab

namespace Go.Ab
open Go.Proofs
def prevB : Option GWay → GWay → Bool
  | none, _ => true
  | some p, w => decide (p.Dir < w.Dir)
def roomB (t : GTables) (n : Int) : Bool := (t.Things[n.toNat]?.getD GThing.zero).Room
def wayB (t : GTables) (prev : Option GWay) (w : GWay) : Bool :=
  fromB w.Dir 1 12 && prevB prev w && thingB t w.To && roomB t w.To && routB t w.When true && textB t w.Else true
def waysM (t : GTables) : Option GWay → List GWay → Bool
  | _, [] => true
  | p, w :: l => wayB t p w && waysM t (some w) l
def waysB (t : GTables) (l : List GWay) : Bool := waysM t none l
theorem waysM_app (t : GTables) (l r : List GWay) (p : Option GWay) : waysM t p (l ++ r) = (waysM t p l && waysM t (l.getLast?.or p) r) := by
  induction l generalizing p with
  | nil => simp [waysM]
  | cons w l ih =>
    rw [List.cons_append, waysM, waysM, ih, Bool.and_assoc]
    cases hl : l.getLast? with
    | none => have : l = [] := by simpa using hl
              subst this; simp
    | some q => simp [List.getLast?_cons, hl]
set_option maxRecDepth 20000 in
theorem refWays_ok (t : GTables) (ht : t.wf) (l : List GWay) (hl : l.length ≤ 1000000000000000) (hw : ∀ x ∈ l, x.wf) : Pure Tryz.prog 71 [.agg (t.enc.map .d), .d (.sl (l.map GWay.enc))] (.d (.v (.bool (waysB t l)))) := by
  have hlen : t.Things.length ≤ 2000000000000 := by have := ht; simp [GTables.wf] at this; omega
  unfold waysB
  refine Pure.run Tryz.func71 rfl (by simp [Tryz.f71]) ?_; simp [Tryz.f71]
  try intro (_ : Nat → Nat)
  refine AWP.loopL [1, 2, 5] l (fun pre => [(5, .d (.v (.int .i64 pre.length)))]) (fun _ => []) (fun pre => waysM t none pre = true) (by rfl) (by omega) (by simp [waysM]) ?_ ?_
  · rintro pre x post hsp hH hlt hge a4
    have hall : waysM t none l = (wayB t pre.getLast? x && waysM t (some x) post) := by
      rw [hsp, waysM_app, hH, waysM]; simp
    have hsn : waysM t none (pre ++ [x]) = wayB t pre.getLast? x := by rw [waysM_app, hH, waysM, waysM]; simp
    have hx := hw x (by rw [hsp]; simp)
    have hprev : ∀ i : Nat, i + 1 = pre.length → l[i]? = pre.getLast? := by
      intro i hi
      rw [hsp, List.getElem?_append_left (by omega), List.getLast?_eq_getElem?]
      congr 1; omega
    have hT : thingB t x.To = true → (1 ≤ x.To ∧ x.To.toNat < t.Things.length) := by
      intro h
      unfold thingB at h
      rw [fromB_iff] at h
      omega
    have hw1 : wayB t pre.getLast? x = (fromB x.Dir 1 12 && prevB pre.getLast? x && thingB t x.To && roomB t x.To && routB t x.When true && textB t x.Else true) := rfl
    rw [hw1] at hall hsn
    clear hw hsp
    simp [-cB, *, -hprev, -hT, -hall, -hsn]
    refine AWP.regionD [.d (.v (.bool (fromB x.Dir 1 12))), .d (.v (.bool (thingB t x.To))), .d (.v (.bool (routB t x.When true))), .d (.v (.bool (textB t x.Else true)))] Tryz.mixed (by kernel_rfl) (by rfl) ?_
    simp [-cB, *, -hprev, -hT, (refFrom_ok _ _ _).ok, (refThing_ok t ht _).ok, (refRoutine_ok t ht _ _).ok, (refText_ok t ht _ _).ok]
    have hP : (0 < pre.length → (l[pre.length - 1]?.getD GWay.zero).Dir < x.Dir) ↔ prevB pre.getLast? x = true := by
      cases hg : pre.getLast? with
      | none => have : pre = [] := by simpa using hg
                subst this; simp [prevB]
      | some p =>
        have hne : 0 < pre.length := by
          cases pre with
          | nil => simp at hg
          | cons _ _ => simp
        rw [hprev (pre.length - 1) (by omega), hg]
        simp [hne, prevB]
    have hR : (t.Things[x.To.toNat]?.getD GThing.zero).Room = roomB t x.To := rfl
    have hnl : pre = [] ↔ ¬ 0 < pre.length := by cases pre <;> simp
    rw [hR, hnl]
    generalize fromB x.Dir 1 12 = b1 at *
    generalize thingB t x.To = b2 at *
    generalize routB t x.When true = b3 at *
    generalize textB t x.Else true = b4 at *
    generalize waysM t (some x) post = b5 at *
    generalize roomB t x.To = b6 at *
    generalize prevB pre.getLast? x = b7 at *
    generalize (l[pre.length - 1]?.getD GWay.zero).Dir = d at *
    have hi : 0 < pre.length → inR IntKind.i64 ((pre.length : Int) - 1) := fun h => by rw [inR_i64]; omega
    rcases Nat.eq_zero_or_pos pre.length with hz | hz
    · have hb7 : b7 = true := hP.1 (fun h => by omega)
      clear hP hprev hnl
      cases b1 <;> simp [hz, hsn, hall, hb7, a4]
      cases b2 <;> simp
      obtain ⟨k1, k2⟩ := hT rfl
      cases b6 <;> simp [k2, show 0 ≤ x.To by omega]
      cases b3 <;> simp
      cases b4 <;> simp [a4, hsn, hall, hb7]
      rw [inR_i64]; omega
    · have hP' : d < x.Dir ↔ b7 = true := ⟨fun h => hP.1 (fun _ => h), fun h => hP.2 h hz⟩
      have hi' := hi hz
      clear hP hprev hnl hi
      have hle : 1 ≤ (pre.length : Int) ∧ pre.length - 1 < l.length := by omega
      cases b1 <;> simp [hz, hsn, hall, a4, hi', hle, hP']
      cases b7 <;> simp
      cases b2 <;> simp
      obtain ⟨k1, k2⟩ := hT rfl
      cases b6 <;> simp [k2, show 0 ≤ x.To by omega]
      cases b3 <;> simp
      cases b4 <;> simp [a4, hsn, hall]
      intro h
      have := hP'.2 rfl
      omega
  · intro hH
    simp [*]
def thingAt (t : GTables) (n : Int) : GThing := t.Things[n.toNat]?.getD GThing.zero
def parentsB (t : GTables) : Prop := ∀ x ∈ t.Things, 0 ≤ x.Parent ∧ x.Parent < t.Things.length
def endsM (t : GTables) : Nat → Int → Bool
  | 0, _ => false
  | k + 1, x => if x = 0 then true else endsM t k (thingAt t x).Parent
def endsB (t : GTables) (x : Int) : Bool := endsM t t.Things.length x
theorem thingAt_get {t : GTables} {n : Int} (h : 0 ≤ n ∧ n < t.Things.length) : t.Things[n.toNat]? = some (thingAt t n) := by
  unfold thingAt
  rw [List.getElem?_eq_getElem (by omega)]; simp
theorem thingAt_elem {t : GTables} {n : Int} (h : 0 ≤ n ∧ n < t.Things.length) : t.Things[n.toNat]'(by omega) = thingAt t n := by
  have := thingAt_get h
  rwa [List.getElem?_eq_getElem (by omega), Option.some.injEq] at this
theorem thingAt_mem {t : GTables} {n : Int} (h : 0 ≤ n ∧ n < t.Things.length) : thingAt t n ∈ t.Things := List.mem_of_getElem? (thingAt_get h)
def upN (t : GTables) : Nat → Int → Int
  | 0, x => x
  | k + 1, x => upN t k (thingAt t x).Parent
theorem upN_succ (t : GTables) (k : Nat) (x : Int) : upN t (k + 1) x = (thingAt t (upN t k x)).Parent := by
  induction k generalizing x with
  | zero => rfl
  | succ k ih => rw [upN, ih]; rfl
theorem upN_in {t : GTables} (hp : parentsB t) (k : Nat) (x : Int) (hx : 0 ≤ x ∧ x < t.Things.length) : 0 ≤ upN t k x ∧ upN t k x < t.Things.length := by
  induction k generalizing x with
  | zero => exact hx
  | succ k ih => exact ih _ (hp _ (thingAt_mem hx))
theorem endsM_up (t : GTables) : ∀ (i k : Nat) (x : Int), (∀ j < i, upN t j x ≠ 0) → endsM t (i + k) x = endsM t k (upN t i x)
  | 0, k, x, _ => by rw [Nat.zero_add]; rfl
  | i + 1, k, x, h => by
    rw [show i + 1 + k = (i + k) + 1 by omega, endsM, if_neg (show x ≠ 0 from h 0 (by omega)), upN, ← endsM_up t i k]
    exact fun j hj => h (j + 1) (by omega)
theorem refEnds_ok (t : GTables) (ht : t.wf) (hp : parentsB t) (x : Int) (hx : 0 ≤ x ∧ x < t.Things.length) : Pure Tryz.prog 72 [.agg (t.enc.map .d), .d (.v (.int .i64 x))] (.d (.v (.bool (endsB t x)))) := by
  have hlen : t.Things.length ≤ 2000000000000 := by have := ht; simp [GTables.wf] at this; omega
  refine Pure.run Tryz.func72 rfl (by simp [Tryz.f72]) ?_; simp [Tryz.f72]
  try intro (_ : Nat → Nat)
  refine AWP.loopS [1, 2, 5] t.Things.length (fun i => [(1, .d (.v (.int .i64 (upN t i x)))), (5, .d (.v (.int .i64 i)))]) (fun _ => []) (fun i => ∀ j < i, upN t j x ≠ 0) (by rfl) (by simp [upN]) ?_
  intro i hi hH
  have hu := upN_in hp i x hx
  have hs := upN_succ t i x
  have he := endsM_up t i (t.Things.length - i) x hH
  rw [show i + (t.Things.length - i) = t.Things.length by omega] at he
  have hget := thingAt_elem hu
  have hs' := hs.symm
  rcases Nat.lt_or_eq_of_le hi with hlt | rfl
  · have a4 : inR .i64 ((i : Int) + 1) := by rw [inR_i64]; omega
    unfold endsB
    rw [show t.Things.length - i = (t.Things.length - (i + 1)) + 1 by omega, endsM, ← hs] at he
    clear hs
    simp [-cB, *]
    repeat' (first
      | (with_reducible refine And.intro ?_ ?_)
      | (refine condC_split (fun h => ?_) (fun h => ?_) <;> (try simp at h) <;> (try simp [-cB, *]))
      | (refine AOps.pureC rfl (refRow_ok _) rfl rfl (by simp) rfl ?_ <;> (try simp [-cB, *]))
      | (refine AOps.lendC rfl (refRow_ok _) rfl (by simp) rfl rfl (by simp) rfl ?_ <;> (try simp [-cB, *]))
      | (refine AOps.pureG rfl (fun h => refRow_ok _) rfl (by first | rfl | (simp; rfl)) (by simp) (by simp) rfl ?_ <;> (try simp [-cB, *]))
      | (with_reducible intro _))
    all_goals (first | assumption | omega | (rw [inR_i64]; omega) | (simp_all; done) | grind | skip)
  · rw [Nat.sub_self] at he
    unfold endsB
    simp [he, endsM]
def roomM (t : GTables) : Nat → Int → Bool
  | 0, _ => false
  | k + 1, x => if thingB t x then (if roomB t x then true else roomM t k (thingAt t x).Parent) else false
def inRoomB (t : GTables) (x : Int) : Bool := roomM t t.Things.length x
theorem roomM_up (t : GTables) : ∀ (i k : Nat) (x : Int), (∀ j < i, thingB t (upN t j x) = true ∧ roomB t (upN t j x) = false) → roomM t (i + k) x = roomM t k (upN t i x)
  | 0, k, x, _ => by rw [Nat.zero_add]; rfl
  | i + 1, k, x, h => by
    have h0 : thingB t x = true ∧ roomB t x = false := h 0 (by omega)
    rw [show i + 1 + k = (i + k) + 1 by omega, roomM, if_pos h0.1, h0.2, if_neg (by simp), upN, ← roomM_up t i k]
    exact fun j hj => h (j + 1) (by omega)
theorem refRoom_ok (t : GTables) (ht : t.wf) (x : Int) : Pure Tryz.prog 73 [.agg (t.enc.map .d), .d (.v (.int .i64 x))] (.d (.v (.bool (inRoomB t x)))) := by
  have hlen : t.Things.length ≤ 2000000000000 := by have := ht; simp [GTables.wf] at this; omega
  refine Pure.run Tryz.func73 rfl (by simp [Tryz.f73]) ?_; simp [Tryz.f73]
  try intro (_ : Nat → Nat)
  refine AWP.loopS [1, 2, 5] t.Things.length (fun i => [(1, .d (.v (.int .i64 (upN t i x)))), (5, .d (.v (.int .i64 i)))]) (fun _ => []) (fun i => ∀ j < i, thingB t (upN t j x) = true ∧ roomB t (upN t j x) = false) (by rfl) (by simp [upN]) ?_
  intro i hi hH
  have hs' := (upN_succ t i x).symm
  have he := roomM_up t i (t.Things.length - i) x hH
  rw [show i + (t.Things.length - i) = t.Things.length by omega] at he
  unfold inRoomB
  have hT : thingB t (upN t i x) = true → 0 ≤ upN t i x ∧ upN t i x < t.Things.length := by
    unfold thingB; rw [fromB_iff]; omega
  have hR : (thingAt t (upN t i x)).Room = roomB t (upN t i x) := rfl
  rcases Nat.lt_or_eq_of_le hi with hlt | rfl
  · have a4 : inR .i64 ((i : Int) + 1) := by rw [inR_i64]; omega
    rw [show t.Things.length - i = (t.Things.length - (i + 1)) + 1 by omega, roomM, hs'] at he
    simp [-cB, *, -hT]
    refine AOps.pureG rfl (fun h => refThing_ok t ht _) rfl (by first | rfl | (simp; rfl)) (by simp) (by simp) rfl ?_
    generalize hb : thingB t (upN t i x) = b at *
    cases b with
    | false =>
      simp [-cB, he]
    | true =>
      have hu := hT rfl
      have hget := thingAt_elem hu
      simp [-cB, *]
      repeat' (first
        | (with_reducible refine And.intro ?_ ?_)
        | (refine condC_split (fun h => ?_) (fun h => ?_) <;> (try simp at h) <;> (try simp [-cB, *]))
        | (refine AOps.pureC rfl (refRow_ok _) rfl rfl (by simp) rfl ?_ <;> (try simp [-cB, *]))
        | (refine AOps.lendC rfl (refRow_ok _) rfl (by simp) rfl rfl (by simp) rfl ?_ <;> (try simp [-cB, *]))
        | (refine AOps.pureG rfl (fun h => refRow_ok _) rfl (by first | rfl | (simp; rfl)) (by simp) (by simp) rfl ?_ <;> (try simp [-cB, *]))
        | (with_reducible intro _))
      all_goals (first | assumption | omega | (rw [inR_i64]; omega) | (simp_all; done) | grind | skip)
  · rw [Nat.sub_self] at he
    simp [-cB, he, roomM]
    refine AOps.pureG rfl (fun h => refThing_ok t ht _) rfl (by first | rfl | (simp; rfl)) (by simp) (by simp) rfl ?_
    simp
end Go.Ab

namespace Go.Ab
open Go.Proofs
def thingOk (t : GTables) (x : GThing) : Bool :=
  textB t x.Title false && textB t x.Text true && fromB x.Flags 0 (bitsM t.Flags - 1) && decide (x.Props.length = t.Props.length) && allB int16 x.Props && wordsB x.Words 8 && wordsB x.Adjs 8 &&
  (decide (x.Parent = 0) || thingB t x.Parent) && (!x.Room || decide (x.Parent = 0)) && (x.Room || decide (x.Ways.length = 0)) && waysB t x.Ways
def thingsB (t : GTables) : Bool :=
  fromB t.Things.length 3 128 && nothingB t (thingAt t 0) && !(thingAt t 1).Room && allB (thingOk t) (t.Things.drop 1) && allB (fun (i : Nat) => endsB t ((i : Int) + 1)) (List.range (t.Things.length - 1)) && inRoomB t 1
theorem bitsM_le (n : Int) : 1 ≤ bitsM n ∧ bitsM n ≤ 65536 := by
  unfold bitsM
  generalize hm : min n.toNat 16 = i
  have h16 : i ≤ 16 := by omega
  have e : (2 : Int) ^ i = ((2 ^ i : Nat) : Int) := by simp
  have := Nat.pow_le_pow_right (n := 2) (by decide) h16
  have := Nat.pow_pos (a := 2) (n := i) (by decide)
  rw [e]; omega
set_option maxRecDepth 20000 in
theorem refThings_ok (t : GTables) (ht : t.wf) : Pure Tryz.prog 35 [.agg (t.enc.map .d)] (.d (.v (.bool (thingsB t)))) := by
  have hlen : t.Things.length ≤ 2000000000000 := by have := ht; simp [GTables.wf] at this; omega
  have hwf := GTables.wf_Things ht
  unfold thingsB
  refine Pure.run Tryz.func35 rfl (by simp [Tryz.f35]) ?_; simp [Tryz.f35]
  try intro (_ : Nat → Nat)
  refine AWP.regionD [.d (.v (.bool (fromB t.Things.length 3 128))), .d (.v (.bool (nothingB t (thingAt t 0))))] Tryz.mixed (by kernel_rfl) (by rfl) ?_
  have h0 : thingAt t 0 = t.Things[0]?.getD GThing.zero := rfl
  have hz : (thingAt t 0).wf := by
    rw [h0]
    cases h : t.Things[0]? with
    | none => simp [GThing.wf, GThing.zero, inR_i64]
    | some x => exact hwf x (List.mem_of_getElem? h)
  simp [-cB, (refFrom_ok _ _ _).ok, ← h0, (refNothing_ok t ht _ hz).ok]
  have hN : fromB t.Things.length 3 128 = true → 3 ≤ t.Things.length ∧ t.Things.length ≤ 128 := by rw [fromB_iff]; omega
  generalize fromB t.Things.length 3 128 = p1 at *
  cases p1 <;> simp [-cB, hN]
  obtain ⟨hN1, hN2⟩ := hN rfl
  clear hN
  have hR1 : nothingB t (thingAt t 0) = true → (thingAt t 0).Parent = 0 := by
    intro h; simp [nothingB] at h; exact h.1.1.1.1.1.2
  generalize nothingB t (thingAt t 0) = p2 at *
  cases p2 <;> simp [-cB, show 0 < t.Things.length by omega, show 1 < t.Things.length by omega]
  have h1 : thingAt t 1 = t.Things[1]?.getD GThing.zero := rfl
  have h1' : t.Things[1]'(by omega) = thingAt t 1 := by rw [h1, List.getElem?_eq_getElem (by omega)]; simp
  rw [h1']
  generalize (thingAt t 1).Room = p3 at *
  cases p3 <;> simp [-cB]
  generalize hl : t.Things.tail = l at *
  have hll : l.length + 1 = t.Things.length := by rw [← hl]; simp; omega
  have hlg : ∀ (k : Nat) (h : k < l.length), t.Things[k + 1]'(by omega) = l[k] := by intro k h; subst hl; simp
  refine AWP.loopL [1, 3] l (fun pre => [(3, .d (.v (.int .i64 ((pre.length : Int) + 1))))]) (fun _ => []) (fun pre => allB (thingOk t) pre = true) (by rfl) (by omega) (by simp [allB_nil]) ?_ ?_
  · rintro pre x post hsp hH hlt hge a4
    have hall := allB_split hsp hH
    have hsn : allB (thingOk t) (pre ++ [x]) = thingOk t x := by simp [allB_snoc, hH]
    have hge' := hlg _ hlt
    rw [hge] at hge'
    have hxw : x.wf := hwf x (by rw [← hge']; exact List.getElem_mem _)
    have c1 : (pre.length : Int) + 1 < t.Things.length := by omega
    have c2 : pre.length + 1 < t.Things.length := by omega
    have hbl := bitsM_le t.Flags
    have hok : thingOk t x = (textB t x.Title false && textB t x.Text true && fromB x.Flags 0 (bitsM t.Flags - 1) && decide (x.Props.length = t.Props.length) && allB int16 x.Props && wordsB x.Words 8 && wordsB x.Adjs 8 &&
      (decide (x.Parent = 0) || thingB t x.Parent) && (!x.Room || decide (x.Parent = 0)) && (x.Room || decide (x.Ways.length = 0)) && waysB t x.Ways) := rfl
    clear hwf hsp hlg hge hN1 hN2 h0 h1 h1' hz
    have c0 : 0 ≤ (pre.length : Int) + 1 := by omega
    simp [-cB, c0, c1, c2, hge', hall]
    try intro (_ : Nat → Nat)
    refine AWP.regionD [.d (.v (.bool (textB t x.Title false))), .d (.v (.bool (textB t x.Text true))), .d (.v (.int .i64 (bitsM t.Flags))), .d (.v (.bool (fromB x.Flags 0 (bitsM t.Flags - 1)))), .d (.v (.bool (allB int16 x.Props))), .d (.v (.bool (wordsB x.Words 8))), .d (.v (.bool (wordsB x.Adjs 8)))] Tryz.mixed (by kernel_rfl) (by rfl) ?_
    simp [-cB, (refText_ok t ht _ _).ok, (refBits_ok _).ok, (refFrom_ok _ _ _).ok, (refValues_ok x.Props (by have := GThing.wl_Props hxw; omega)).ok, (refWords_ok x.Words (by have := GThing.wl_Words hxw; omega) (fun y hy => by have := GThing.wf_Words hxw y hy; omega) _).ok, (refWords_ok x.Adjs (by have := GThing.wl_Adjs hxw; omega) (fun y hy => by have := GThing.wf_Adjs hxw y hy; omega) _).ok]
    refine ⟨fun h h' => ⟨by rw [inR_i64]; omega, h, h'⟩, ?_⟩
    refine condC_split (fun h => ?_) (fun h => ?_)
    · simp [-cB]
      simp at h
      all_goals (first | assumption | omega | (rw [inR_i64]; omega) | (simp_all; done) | grind | skip)
    · simp [-cB]
      simp at h
      repeat' (first
        | (with_reducible refine And.intro ?_ ?_)
        | (refine condC_split (fun h => ?_) (fun h => ?_) <;> (try simp at h) <;> (try simp [-cB, *]))
        | (refine AOps.pureC rfl (refThing_ok t ht _) rfl rfl (by simp) rfl ?_ <;> (try simp [-cB, *]))
        | (refine AOps.pureC rfl (refWays_ok t ht x.Ways (by have := GThing.wl_Ways hxw; omega) (GThing.wf_Ways hxw)) rfl rfl (by simp) rfl ?_ <;> (try simp [-cB, *]))
        | (refine AOps.lendC rfl (refThing_ok t ht _) rfl (by simp) rfl rfl (by simp) rfl ?_ <;> (try simp [-cB, *]))
        | (refine AOps.lendC rfl (refWays_ok t ht x.Ways (by have := GThing.wl_Ways hxw; omega) (GThing.wf_Ways hxw)) rfl (by simp) rfl rfl (by simp) rfl ?_ <;> (try simp [-cB, *]))
        | (refine AOps.pureG rfl (fun h => refThing_ok t ht _) rfl (by first | rfl | (simp; rfl)) (by simp) (by simp) rfl ?_ <;> (try simp [-cB, *]))
        | (refine AOps.pureG rfl (fun h => refWays_ok t ht x.Ways (by have := GThing.wl_Ways hxw; omega) (GThing.wf_Ways hxw)) rfl (by first | rfl | (simp; rfl)) (by simp) (by simp) rfl ?_ <;> (try simp [-cB, *]))
        | (with_reducible intro _))
      all_goals (first | assumption | omega | (rw [inR_i64]; omega) | (simp_all; done) | grind | skip)
  · intro hH
    have hpar : parentsB t := by
      intro x hx
      obtain ⟨k, hk, rfl⟩ := List.getElem_of_mem hx
      cases k with
      | zero =>
        have := hR1 rfl
        rw [h0, List.getElem?_eq_getElem hk] at this
        simp only [Option.getD_some] at this
        rw [this]; omega
      | succ k =>
        rw [hlg k (by omega)]
        have := allB_iff.1 hH l[k] (List.getElem_mem _)
        simp [thingOk, thingB, fromB] at this
        omega
    clear hwf h0 hz hR1 h1 h1' hlg
    have c9 : ¬ ((l.length : Int) + 1 < t.Things.length) := by omega
    simp [-cB, c9, hH]
    refine AWP.loopL [1, 5] (List.range (t.Things.length - 1)) (fun pre => [(5, .d (.v (.int .i64 ((pre.length : Int) + 1))))]) (fun _ => []) (fun pre => allB (fun (i : Nat) => endsB t ((i : Int) + 1)) pre = true) (by rfl) (by simp; omega) (by simp [allB_nil]) ?_ ?_
    · rintro pre x post hsp hH2 hlt hge a4
      have hall := allB_split hsp hH2
      have hx : pre.length = x := by simpa using hge
      have hsn : allB (fun (i : Nat) => endsB t ((i : Int) + 1)) (pre ++ [x]) = endsB t ((x : Int) + 1) := by simp [allB_snoc, hH2]
      simp at hlt
      subst hx
      have c1 : (pre.length : Int) + 1 < t.Things.length := by omega
      have hE := refEnds_ok t ht hpar ((pre.length : Int) + 1) (by omega)
      clear hsp hge
      simp [-cB, c1, hall]
      repeat' (first
        | (with_reducible refine And.intro ?_ ?_)
        | (refine condC_split (fun h => ?_) (fun h => ?_) <;> (try simp at h) <;> (try simp [-cB, *]))
        | (refine AOps.pureC rfl (hE) rfl rfl (by simp) rfl ?_ <;> (try simp [-cB, *]))
        | (refine AOps.lendC rfl (hE) rfl (by simp) rfl rfl (by simp) rfl ?_ <;> (try simp [-cB, *]))
        | (refine AOps.pureG rfl (fun h => hE) rfl (by first | rfl | (simp; rfl)) (by simp) (by simp) rfl ?_ <;> (try simp [-cB, *]))
        | (with_reducible intro _))
      all_goals (first | assumption | omega | (rw [inR_i64]; omega) | (simp_all; done) | grind | skip)
    · intro hH2
      have c1 : ¬ (((t.Things.length - 1 : Nat) : Int) + 1 < t.Things.length) := by omega
      simp [-cB, c1, hH2]
      repeat' (first
        | (with_reducible refine And.intro ?_ ?_)
        | (refine condC_split (fun h => ?_) (fun h => ?_) <;> (try simp at h) <;> (try simp [-cB, *]))
        | (refine AOps.pureC rfl (refRoom_ok t ht 1) rfl rfl (by simp) rfl ?_ <;> (try simp [-cB, *]))
        | (refine AOps.lendC rfl (refRoom_ok t ht 1) rfl (by simp) rfl rfl (by simp) rfl ?_ <;> (try simp [-cB, *]))
        | (refine AOps.pureG rfl (fun h => refRoom_ok t ht 1) rfl (by first | rfl | (simp; rfl)) (by simp) (by simp) rfl ?_ <;> (try simp [-cB, *]))
        | (with_reducible intro _))
end Go.Ab

namespace Go.Ab
open Go.Proofs
def paramB (t : GTables) (i : Nat) : Bool := fromB (t.Params[i]?.getD 0) 0 8 && fromB (t.Locals[i]?.getD 0) (t.Params[i]?.getD 0) 24
def headB (t : GTables) : Bool :=
  decide (t.Texts.length ≤ 4096) && textB t t.Title false && textB t t.By false && fromB t.Release 0 32767 && fromB t.Max 0 32767 && fromB t.Flags 4 16 &&
  (decide (t.Props.length ≤ 16) && decide (t.Globals.length ≤ 64) && allB int16 t.Props && allB int16 t.Globals && decide (t.Params.length = t.Locals.length) && decide (t.Params.length ≤ 2048)) &&
  allB isTextB t.Texts && allB (paramB t) (List.range t.Params.length)
set_option maxRecDepth 20000 in
theorem refHead_ok (t : GTables) (ht : t.wf) : Pure Tryz.prog 34 [.agg (t.enc.map .d)] (.d (.v (.bool (headB t)))) := by
  have hx1 := GTables.wl_Texts ht
  have hx2 := GTables.wl_Props ht
  have hx3 := GTables.wl_Globals ht
  have hx4 := GTables.wl_Params ht
  have hx5 := GTables.wl_Locals ht
  have hx6 := GTables.wf_Texts ht
  unfold headB
  refine Pure.run Tryz.func34 rfl (by simp [Tryz.f34]) ?_; simp [-cB, Tryz.f34]
  repeat' (first
    | (with_reducible refine And.intro ?_ ?_)
    | (refine condC_split (fun h => ?_) (fun h => ?_) <;> (try simp at h) <;> (try simp [-cB, *]))
    | (refine AOps.pureC rfl (refText_ok t ht _ _) rfl rfl (by simp) rfl ?_ <;> (try simp [-cB, *]))
    | (refine AOps.pureC rfl (refFrom_ok _ _ _) rfl rfl (by simp) rfl ?_ <;> (try simp [-cB, *]))
    | (refine AOps.pureC rfl (refValues_ok t.Props (by omega)) rfl rfl (by simp) rfl ?_ <;> (try simp [-cB, *]))
    | (refine AOps.pureC rfl (refValues_ok t.Globals (by omega)) rfl rfl (by simp) rfl ?_ <;> (try simp [-cB, *]))
    | (refine AOps.lendC rfl (refText_ok t ht _ _) rfl (by simp) rfl rfl (by simp) rfl ?_ <;> (try simp [-cB, *]))
    | (refine AOps.lendC rfl (refFrom_ok _ _ _) rfl (by simp) rfl rfl (by simp) rfl ?_ <;> (try simp [-cB, *]))
    | (refine AOps.lendC rfl (refValues_ok t.Props (by omega)) rfl (by simp) rfl rfl (by simp) rfl ?_ <;> (try simp [-cB, *]))
    | (refine AOps.lendC rfl (refValues_ok t.Globals (by omega)) rfl (by simp) rfl rfl (by simp) rfl ?_ <;> (try simp [-cB, *]))
    | (refine AOps.pureG rfl (fun h => refText_ok t ht _ _) rfl (by first | rfl | (simp; rfl)) (by simp) (by simp) rfl ?_ <;> (try simp [-cB, *]))
    | (refine AOps.pureG rfl (fun h => refFrom_ok _ _ _) rfl (by first | rfl | (simp; rfl)) (by simp) (by simp) rfl ?_ <;> (try simp [-cB, *]))
    | (refine AOps.pureG rfl (fun h => refValues_ok t.Props (by omega)) rfl (by first | rfl | (simp; rfl)) (by simp) (by simp) rfl ?_ <;> (try simp [-cB, *]))
    | (refine AOps.pureG rfl (fun h => refValues_ok t.Globals (by omega)) rfl (by first | rfl | (simp; rfl)) (by simp) (by simp) rfl ?_ <;> (try simp [-cB, *]))
    | (with_reducible intro _))
  all_goals (first | assumption | omega | (rw [inR_i64]; omega) | (simp_all; done) | grind | skip)
  have e1 : t.Texts.length ≤ 4096 := by omega
  have e2 : t.Props.length ≤ 16 := by omega
  have e3 : t.Globals.length ≤ 64 := by omega
  have e4 : t.Params.length = t.Locals.length := by omega
  have e5 : t.Params.length ≤ 2048 := by omega
  refine AWP.loopL [1, 3] t.Texts (fun pre => [(3, .d (.v (.int .i64 pre.length)))]) (fun _ => []) (fun pre => allB isTextB pre = true) (by rfl) (by omega) (by simp [allB_nil]) ?_ ?_
  · rintro pre x post hsp hH hlt hge a4
    have hall := allB_split hsp hH
    have hsn : allB isTextB (pre ++ [x]) = isTextB x := by simp [allB_snoc, hH]
    have hT := refIsText_ok x (by have := hx6 x (by rw [hsp]; simp); omega)
    clear hsp hx6
    simp [-cB, hlt, hge, hall, a4]
    repeat' (first
      | (with_reducible refine And.intro ?_ ?_)
      | (refine condC_split (fun h => ?_) (fun h => ?_) <;> (try simp at h) <;> (try simp [-cB, *]))
      | (refine AOps.pureC rfl (hT) rfl rfl (by simp) rfl ?_ <;> (try simp [-cB, *]))
      | (refine AOps.lendC rfl (hT) rfl (by simp) rfl rfl (by simp) rfl ?_ <;> (try simp [-cB, *]))
      | (refine AOps.pureG rfl (fun h => hT) rfl (by first | rfl | (simp; rfl)) (by simp) (by simp) rfl ?_ <;> (try simp [-cB, *]))
      | (with_reducible intro _))
    all_goals (first | assumption | omega | (rw [inR_i64]; omega) | (simp_all; done) | grind | skip)
  · intro hH
    simp [-cB, hH]
    refine AWP.loopL [1, 4] (List.range t.Params.length) (fun pre => [(4, .d (.v (.int .i64 pre.length)))]) (fun _ => []) (fun pre => allB (paramB t) pre = true) (by rfl) (by simp; omega) (by simp [allB_nil]) ?_ ?_
    · rintro pre x post hsp hH2 hlt hge a4
      have hall := allB_split hsp hH2
      have hx : pre.length = x := by simpa using hge
      simp at hlt
      subst hx
      have hsn : allB (paramB t) (pre ++ [pre.length]) = paramB t pre.length := by rw [allB_snoc, hH2]; simp
      have hlt2 : pre.length < t.Locals.length := by omega
      have hpx : paramB t pre.length = (fromB t.Params[pre.length] 0 8 && fromB t.Locals[pre.length] t.Params[pre.length] 24) := by simp [paramB, hlt, hlt2]
      clear hsp hge
      simp [-cB, hlt, hlt2, hall]
      refine AWP.regionD [.d (.v (.bool (fromB (t.Params[pre.length]?.getD 0) 0 8))), .d (.v (.bool (fromB (t.Locals[pre.length]?.getD 0) (t.Params[pre.length]?.getD 0) 24)))] Tryz.mixed (by kernel_rfl) (by rfl) ?_
      simp [-cB, hlt, hlt2, (refFrom_ok _ _ _).ok]
      refine condC_split (fun h => ?_) (fun h => ?_)
      · simp [-cB]
        simp at h
        all_goals (first | assumption | omega | (rw [inR_i64]; omega) | (simp_all; done) | grind | skip)
      · simp [-cB]
        simp at h
        all_goals (first | assumption | omega | (rw [inR_i64]; omega) | (simp_all; done) | grind | skip)
    · intro hH2
      simp [-cB, hH2]
      all_goals (first | assumption | omega | (rw [inR_i64]; omega) | (simp_all; done) | grind | skip)
def slotB (s : GSlot) : Bool := fromB s.Kind 1 5 && !(decide (s.Kind = 1) && decide (s.Words.length = 0)) && !(decide (s.Kind ≠ 1) && decide (0 < s.Words.length)) && wordsB s.Words 4
def nounB (s : GSlot) : Bool := decide (s.Kind = 2) || decide (s.Kind = 3)
def lineB (l : List GSlot) : Bool :=
  allB slotB l && (fromB l.length 1 8 && (decide ((l[0]?.getD GSlot.zero).Kind = 1) || decide ((l[0]?.getD GSlot.zero).Kind = 5)) && decide ((l.countP nounB : Int) ≤ 2) && decide ((l.countP (fun s => decide (s.Kind = 4)) : Int) ≤ 1) && decide ((l.countP (fun s => decide (s.Kind = 5)) : Int) ≤ 1))
set_option maxRecDepth 20000 in
theorem refLine_ok (l : List GSlot) (hl : l.length ≤ 1000000000000000) (hw : ∀ x ∈ l, x.wf) : Pure Tryz.prog 74 [.d (.sl (l.map GSlot.enc))] (.d (.v (.bool (lineB l)))) := by
  unfold lineB
  refine Pure.run Tryz.func74 rfl (by simp [Tryz.f74]) ?_; simp [-cB, Tryz.f74]
  refine AWP.loopL [0, 3, 4, 5, 6] l (fun pre => [(3, .d (.v (.int .i64 (pre.countP nounB)))), (4, .d (.v (.int .i64 (pre.countP (fun s => decide (s.Kind = 4)))))), (5, .d (.v (.int .i64 (pre.countP (fun s => decide (s.Kind = 5)))))), (6, .d (.v (.int .i64 pre.length)))]) (fun _ => []) (fun pre => allB slotB pre = true) (by rfl) (by omega) (by simp [allB_nil]) ?_ ?_
  · rintro pre x post hsp hH hlt hge a4
    have hall := allB_split hsp hH
    have hsn : allB slotB (pre ++ [x]) = slotB x := by simp [allB_snoc, hH]
    have hxw := hw x (by rw [hsp]; simp)
    have c1 := List.countP_le_length (p := nounB) (l := pre)
    have c2 := List.countP_le_length (p := fun s : GSlot => decide (s.Kind = 4)) (l := pre)
    have c3 := List.countP_le_length (p := fun s : GSlot => decide (s.Kind = 5)) (l := pre)
    have hn1 : (pre ++ [x]).countP nounB = pre.countP nounB + (if nounB x then 1 else 0) := by rw [List.countP_append]; simp [List.countP_cons]
    have hn2 : (pre ++ [x]).countP (fun s : GSlot => decide (s.Kind = 4)) = pre.countP (fun s : GSlot => decide (s.Kind = 4)) + (if x.Kind = 4 then 1 else 0) := by rw [List.countP_append]; simp [List.countP_cons]
    have hn3 : (pre ++ [x]).countP (fun s : GSlot => decide (s.Kind = 5)) = pre.countP (fun s : GSlot => decide (s.Kind = 5)) + (if x.Kind = 5 then 1 else 0) := by rw [List.countP_append]; simp [List.countP_cons]
    have hW := refWords_ok x.Words (by have := GSlot.wl_Words hxw; omega) (fun y hy => by have := GSlot.wf_Words hxw y hy; omega) 4
    have hsx : slotB x = (fromB x.Kind 1 5 && !(decide (x.Kind = 1) && decide (x.Words.length = 0)) && !(decide (x.Kind ≠ 1) && decide (0 < x.Words.length)) && wordsB x.Words 4) := rfl
    have hnx : nounB x = (decide (x.Kind = 2) || decide (x.Kind = 3)) := rfl
    generalize hk1 : pre.countP nounB = k1 at *
    generalize hk2 : pre.countP (fun s : GSlot => decide (s.Kind = 4)) = k2 at *
    generalize hk3 : pre.countP (fun s : GSlot => decide (s.Kind = 5)) = k3 at *
    clear hsp hw hk1 hk2 hk3
    simp [-cB, hlt, hge, hall, a4]
    repeat' (first
      | (with_reducible refine And.intro ?_ ?_)
      | (refine condC_split (fun h => ?_) (fun h => ?_) <;> (try simp at h) <;> (try simp [-cB, *]))
      | (refine AOps.pureC rfl (refFrom_ok _ _ _) rfl rfl (by simp) rfl ?_ <;> (try simp [-cB, *]))
      | (refine AOps.pureC rfl (hW) rfl rfl (by simp) rfl ?_ <;> (try simp [-cB, *]))
      | (refine AOps.lendC rfl (refFrom_ok _ _ _) rfl (by simp) rfl rfl (by simp) rfl ?_ <;> (try simp [-cB, *]))
      | (refine AOps.lendC rfl (hW) rfl (by simp) rfl rfl (by simp) rfl ?_ <;> (try simp [-cB, *]))
      | (refine AOps.pureG rfl (fun h => refFrom_ok _ _ _) rfl (by first | rfl | (simp; rfl)) (by simp) (by simp) rfl ?_ <;> (try simp [-cB, *]))
      | (refine AOps.pureG rfl (fun h => hW) rfl (by first | rfl | (simp; rfl)) (by simp) (by simp) rfl ?_ <;> (try simp [-cB, *]))
      | (with_reducible intro _))
    all_goals (first | assumption | omega | (rw [inR_i64]; omega) | (simp_all; done) | grind | skip)
  · intro hH
    have hF : fromB l.length 1 8 = true → 0 < l.length := by rw [fromB_iff]; omega
    simp [-cB, hH]
    repeat' (first
      | (with_reducible refine And.intro ?_ ?_)
      | (refine condC_split (fun h => ?_) (fun h => ?_) <;> (try simp at h) <;> (try simp [-cB, *]))
      | (refine AOps.pureC rfl (refFrom_ok _ _ _) rfl rfl (by simp) rfl ?_ <;> (try simp [-cB, *]))
      | (refine AOps.lendC rfl (refFrom_ok _ _ _) rfl (by simp) rfl rfl (by simp) rfl ?_ <;> (try simp [-cB, *]))
      | (refine AOps.pureG rfl (fun h => refFrom_ok _ _ _) rfl (by first | rfl | (simp; rfl)) (by simp) (by simp) rfl ?_ <;> (try simp [-cB, *]))
      | (with_reducible intro _))
    all_goals first | assumption | exact hF (by assumption)
end Go.Ab

namespace Go.Ab
open Go.Proofs
def actB (a : GAct) : Bool := fromB a.Lines.length 1 8 && allB lineB a.Lines
def deedB (t : GTables) (d : GDeed) : Bool :=
  fromB d.Verb 0 (t.Acts.length - 1) && fromB d.Phase 1 3 && (decide (d.Noun = -1) || thingB t d.Noun) && (decide (d.Second = -1) || thingB t d.Second) && routB t d.When true && routB t d.Body false
def rulesB (t : GTables) : Bool :=
  (decide (t.Acts.length ≤ 64) && decide (t.Deeds.length ≤ 512) && decide (t.Funcs.length ≤ 64) && decide (t.Daemons.length ≤ 16)) &&
  (allB actB t.Acts && (allB (deedB t) t.Deeds && (allB (fun n => fromB n 0 (t.Params.length - 1)) t.Funcs && allB (fun n => routB t n false) t.Daemons)))
set_option maxHeartbeats 1000000 in
set_option maxRecDepth 20000 in
theorem refRules_ok (t : GTables) (ht : t.wf) : Pure Tryz.prog 36 [.agg (t.enc.map .d)] (.d (.v (.bool (rulesB t)))) := by
  have hx1 := GTables.wl_Acts ht
  have hx2 := GTables.wl_Deeds ht
  have hx3 := GTables.wl_Funcs ht
  have hx4 := GTables.wl_Daemons ht
  have hx5 := GTables.wl_Params ht
  have hx6 := GTables.wf_Acts ht
  have hx7 := GTables.wf_Deeds ht
  unfold rulesB
  refine Pure.run Tryz.func36 rfl (by simp [Tryz.f36]) ?_; simp [-cB, Tryz.f36]
  repeat' (first
    | (with_reducible refine And.intro ?_ ?_)
    | (refine condC_split (fun h => ?_) (fun h => ?_) <;> (try simp at h) <;> (try simp [-cB, *]))
    | (refine AOps.pureC rfl (refText_ok t ht _ _) rfl rfl (by simp) rfl ?_ <;> (try simp [-cB, *]))
    | (refine AOps.lendC rfl (refText_ok t ht _ _) rfl (by simp) rfl rfl (by simp) rfl ?_ <;> (try simp [-cB, *]))
    | (refine AOps.pureG rfl (fun h => refText_ok t ht _ _) rfl (by first | rfl | (simp; rfl)) (by simp) (by simp) rfl ?_ <;> (try simp [-cB, *]))
    | (with_reducible intro _))
  all_goals (first | assumption | omega | (rw [inR_i64]; omega) | (simp_all; done) | grind | skip)
  have e1 : t.Acts.length ≤ 64 := by omega
  have e2 : t.Deeds.length ≤ 512 := by omega
  have e3 : t.Funcs.length ≤ 64 := by omega
  have e4 : t.Daemons.length ≤ 16 := by omega
  refine AWP.loopL [1, 3] t.Acts (fun pre => [(3, .d (.v (.int .i64 pre.length)))]) (fun _ => []) (fun pre => allB actB pre = true) (by rfl) (by omega) (by simp [allB_nil]) ?_ ?_
  · rintro pre x post hsp hH hlt hge a4
    have hall := allB_split hsp hH
    have hsn : allB actB (pre ++ [x]) = actB x := by simp [allB_snoc, hH]
    have hxw := hx6 x (by rw [hsp]; simp)
    have hax : actB x = (fromB x.Lines.length 1 8 && allB lineB x.Lines) := rfl
    clear hsp hx6 hx7
    simp [-cB, hlt, hge, hall, a4]
    repeat' (first
      | (with_reducible refine And.intro ?_ ?_)
      | (refine condC_split (fun h => ?_) (fun h => ?_) <;> (try simp at h) <;> (try simp [-cB, *]))
      | (refine AOps.pureC rfl (refFrom_ok _ _ _) rfl rfl (by simp) rfl ?_ <;> (try simp [-cB, *]))
      | (refine AOps.lendC rfl (refFrom_ok _ _ _) rfl (by simp) rfl rfl (by simp) rfl ?_ <;> (try simp [-cB, *]))
      | (refine AOps.pureG rfl (fun h => refFrom_ok _ _ _) rfl (by first | rfl | (simp; rfl)) (by simp) (by simp) rfl ?_ <;> (try simp [-cB, *]))
      | (with_reducible intro _))
    all_goals (first | assumption | omega | (rw [inR_i64]; omega) | (simp_all; done) | grind | skip)
    refine AWP.loopL [1, 3, 4] x.Lines (fun pre => [(4, .d (.v (.int .i64 pre.length)))]) (fun _ => []) (fun pre => allB lineB pre = true) (by rfl) (by have := GAct.wl_Lines hxw; omega) (by simp [allB_nil]) ?_ ?_
    · rintro pre2 y post2 hsp hH2 hlt2 hge2 a5
      have hall2 := allB_split hsp hH2
      have hsn2 : allB lineB (pre2 ++ [y]) = lineB y := by simp [allB_snoc, hH2]
      have hyw := GAct.wf_Lines hxw y (by rw [hsp]; simp)
      have hL := refLine_ok y (by omega) hyw.2
      clear hsp
      simp [-cB, hlt, hge, hlt2, hge2, hall2, a4, a5]
      repeat' (first
        | (with_reducible refine And.intro ?_ ?_)
        | (refine condC_split (fun h => ?_) (fun h => ?_) <;> (try simp at h) <;> (try simp [-cB, *]))
        | (refine AOps.pureC rfl (hL) rfl rfl (by simp) rfl ?_ <;> (try simp [-cB, *]))
        | (refine AOps.lendC rfl (hL) rfl (by simp) rfl rfl (by simp) rfl ?_ <;> (try simp [-cB, *]))
        | (refine AOps.pureG rfl (fun h => hL) rfl (by first | rfl | (simp; rfl)) (by simp) (by simp) rfl ?_ <;> (try simp [-cB, *]))
        | (with_reducible intro _))
      all_goals (first | assumption | omega | (rw [inR_i64]; omega) | (simp_all; done) | grind | skip)
    · intro hH2
      simp [-cB, hlt, hge, hH2]
      repeat' (first
        | (with_reducible refine And.intro ?_ ?_)
        | (refine condC_split (fun h => ?_) (fun h => ?_) <;> (try simp at h) <;> (try simp [-cB, *]))
        | (refine AOps.pureC rfl (refFrom_ok _ _ _) rfl rfl (by simp) rfl ?_ <;> (try simp [-cB, *]))
        | (refine AOps.lendC rfl (refFrom_ok _ _ _) rfl (by simp) rfl rfl (by simp) rfl ?_ <;> (try simp [-cB, *]))
        | (refine AOps.pureG rfl (fun h => refFrom_ok _ _ _) rfl (by first | rfl | (simp; rfl)) (by simp) (by simp) rfl ?_ <;> (try simp [-cB, *]))
        | (with_reducible intro _))
      all_goals (first | assumption | omega | (rw [inR_i64]; omega) | (simp_all; done) | grind | skip)
  · intro hH
    simp [-cB, hH]
    refine AWP.loopL [1, 5] t.Deeds (fun pre => [(5, .d (.v (.int .i64 pre.length)))]) (fun _ => []) (fun pre => allB (deedB t) pre = true) (by rfl) (by omega) (by simp [allB_nil]) ?_ ?_
    · rintro pre x post hsp hH2 hlt hge a4
      have hall := allB_split hsp hH2
      have hsn : allB (deedB t) (pre ++ [x]) = deedB t x := by simp [allB_snoc, hH2]
      have hxw := hx7 x (by rw [hsp]; simp)
      have hdx : deedB t x = (fromB x.Verb 0 (t.Acts.length - 1) && fromB x.Phase 1 3 && (decide (x.Noun = -1) || thingB t x.Noun) && (decide (x.Second = -1) || thingB t x.Second) && routB t x.When true && routB t x.Body false) := rfl
      clear hsp hx6 hx7
      simp [-cB, hlt, hge, hall, a4]
      repeat' (first
        | (with_reducible refine And.intro ?_ ?_)
        | (refine condC_split (fun h => ?_) (fun h => ?_) <;> (try simp at h) <;> (try simp [-cB, *]))
        | (refine AOps.pureC rfl (refFrom_ok _ _ _) rfl rfl (by simp) rfl ?_ <;> (try simp [-cB, *]))
        | (refine AOps.pureC rfl (refThing_ok t ht _) rfl rfl (by simp) rfl ?_ <;> (try simp [-cB, *]))
        | (refine AOps.pureC rfl (refRoutine_ok t ht _ _) rfl rfl (by simp) rfl ?_ <;> (try simp [-cB, *]))
        | (refine AOps.lendC rfl (refFrom_ok _ _ _) rfl (by simp) rfl rfl (by simp) rfl ?_ <;> (try simp [-cB, *]))
        | (refine AOps.lendC rfl (refThing_ok t ht _) rfl (by simp) rfl rfl (by simp) rfl ?_ <;> (try simp [-cB, *]))
        | (refine AOps.lendC rfl (refRoutine_ok t ht _ _) rfl (by simp) rfl rfl (by simp) rfl ?_ <;> (try simp [-cB, *]))
        | (refine AOps.pureG rfl (fun h => refFrom_ok _ _ _) rfl (by first | rfl | (simp; rfl)) (by simp) (by simp) rfl ?_ <;> (try simp [-cB, *]))
        | (refine AOps.pureG rfl (fun h => refThing_ok t ht _) rfl (by first | rfl | (simp; rfl)) (by simp) (by simp) rfl ?_ <;> (try simp [-cB, *]))
        | (refine AOps.pureG rfl (fun h => refRoutine_ok t ht _ _) rfl (by first | rfl | (simp; rfl)) (by simp) (by simp) rfl ?_ <;> (try simp [-cB, *]))
        | (with_reducible intro _))
      all_goals (first | assumption | omega | (rw [inR_i64]; omega) | (simp_all; done) | grind | skip)
    · intro hH2
      simp [-cB, hH2]
      refine AWP.loopL [1, 7] t.Funcs (fun pre => [(7, .d (.v (.int .i64 pre.length)))]) (fun _ => []) (fun pre => allB (fun n => fromB n 0 (t.Params.length - 1)) pre = true) (by rfl) (by omega) (by simp [allB_nil]) ?_ ?_
      · rintro pre x post hsp hH3 hlt hge a4
        have hall := allB_split hsp hH3
        have hsn : allB (fun n => fromB n 0 (t.Params.length - 1)) (pre ++ [x]) = fromB x 0 (t.Params.length - 1) := by rw [allB_snoc, hH3]; simp
        clear hsp hx6 hx7
        simp [-cB, hlt, hge, hall, a4]
        refine AWP.regionD [.d (.v (.bool (fromB x 0 (t.Params.length - 1))))] Tryz.mixed (by kernel_rfl) (by rfl) ?_
        simp [-cB, hlt, hge, (refFrom_ok _ _ _).ok]
        refine ⟨by rw [inR_i64]; omega, ?_⟩
        repeat' (first
          | (with_reducible refine And.intro ?_ ?_)
          | (refine condC_split (fun h => ?_) (fun h => ?_) <;> (try simp at h) <;> (try simp [-cB, *]))
          | (refine AOps.pureC rfl (refFrom_ok _ _ _) rfl rfl (by simp) rfl ?_ <;> (try simp [-cB, *]))
          | (refine AOps.lendC rfl (refFrom_ok _ _ _) rfl (by simp) rfl rfl (by simp) rfl ?_ <;> (try simp [-cB, *]))
          | (refine AOps.pureG rfl (fun h => refFrom_ok _ _ _) rfl (by first | rfl | (simp; rfl)) (by simp) (by simp) rfl ?_ <;> (try simp [-cB, *]))
          | (with_reducible intro _))
        all_goals (first | assumption | omega | (rw [inR_i64]; omega) | (simp_all; done) | grind | skip)
      · intro hH3
        simp [-cB, hH3]
        refine AWP.loopL [1, 8] t.Daemons (fun pre => [(8, .d (.v (.int .i64 pre.length)))]) (fun _ => []) (fun pre => allB (fun n => routB t n false) pre = true) (by rfl) (by omega) (by simp [allB_nil]) ?_ ?_
        · rintro pre x post hsp hH4 hlt hge a4
          have hall := allB_split hsp hH4
          have hsn : allB (fun n => routB t n false) (pre ++ [x]) = routB t x false := by rw [allB_snoc, hH4]; simp
          clear hsp hx6 hx7
          simp [-cB, hlt, hge, hall, a4]
          refine AWP.regionD [.d (.v (.bool (routB t x false)))] Tryz.mixed (by kernel_rfl) (by rfl) ?_
          simp [-cB, hlt, hge, (refRoutine_ok t ht _ _).ok]
          repeat' (first
            | (with_reducible refine And.intro ?_ ?_)
            | (refine condC_split (fun h => ?_) (fun h => ?_) <;> (try simp at h) <;> (try simp [-cB, *]))
            | (refine AOps.pureC rfl (refFrom_ok _ _ _) rfl rfl (by simp) rfl ?_ <;> (try simp [-cB, *]))
            | (refine AOps.lendC rfl (refFrom_ok _ _ _) rfl (by simp) rfl rfl (by simp) rfl ?_ <;> (try simp [-cB, *]))
            | (refine AOps.pureG rfl (fun h => refFrom_ok _ _ _) rfl (by first | rfl | (simp; rfl)) (by simp) (by simp) rfl ?_ <;> (try simp [-cB, *]))
            | (with_reducible intro _))
          all_goals (first | assumption | omega | (rw [inR_i64]; omega) | (simp_all; done) | grind | skip)
        · intro hH4
          simp [hH4, e1, e2, e3, e4]
def fitsB (t : GTables) : Bool := headB t && thingsB t && rulesB t
theorem refFits_ok (t : GTables) (ht : t.wf) : Pure Tryz.prog 19 [.agg (t.enc.map .d)] (.d (.v (.bool (fitsB t)))) := by
  unfold fitsB
  refine Pure.run Tryz.func19 rfl (by simp [Tryz.f19]) ?_; simp [-cB, Tryz.f19]
  repeat' (first
    | (with_reducible refine And.intro ?_ ?_)
    | (refine condC_split (fun h => ?_) (fun h => ?_) <;> (try simp at h) <;> (try simp [-cB, *]))
    | (refine AOps.pureC rfl (refHead_ok t ht) rfl rfl (by simp) rfl ?_ <;> (try simp [-cB, *]))
    | (refine AOps.pureC rfl (refThings_ok t ht) rfl rfl (by simp) rfl ?_ <;> (try simp [-cB, *]))
    | (refine AOps.pureC rfl (refRules_ok t ht) rfl rfl (by simp) rfl ?_ <;> (try simp [-cB, *]))
    | (refine AOps.lendC rfl (refHead_ok t ht) rfl (by simp) rfl rfl (by simp) rfl ?_ <;> (try simp [-cB, *]))
    | (refine AOps.lendC rfl (refThings_ok t ht) rfl (by simp) rfl rfl (by simp) rfl ?_ <;> (try simp [-cB, *]))
    | (refine AOps.lendC rfl (refRules_ok t ht) rfl (by simp) rfl rfl (by simp) rfl ?_ <;> (try simp [-cB, *]))
    | (refine AOps.pureG rfl (fun h => refHead_ok t ht) rfl (by first | rfl | (simp; rfl)) (by simp) (by simp) rfl ?_ <;> (try simp [-cB, *]))
    | (refine AOps.pureG rfl (fun h => refThings_ok t ht) rfl (by first | rfl | (simp; rfl)) (by simp) (by simp) rfl ?_ <;> (try simp [-cB, *]))
    | (refine AOps.pureG rfl (fun h => refRules_ok t ht) rfl (by first | rfl | (simp; rfl)) (by simp) (by simp) rfl ?_ <;> (try simp [-cB, *]))
    | (with_reducible intro _))
  all_goals (first | assumption | omega | (rw [inR_i64]; omega) | (simp_all; done) | grind | skip)
end Go.Ab

namespace Go.Ab
open Go.Proofs
def placedM (t : GTables) (w : GWorld) : Bool := (List.range (t.Things.length - 1)).all (fun k => !((thingAt t (k + 1)).Room && decide (atI w.Parent (k + 1) ≠ 0))) && (thingAt t (topM w.tree 1)).Room
def rightB (t : GTables) (w : GWorld) : Bool :=
  decide (w.Globals.length = t.Globals.length) && decide (w.Parent.length = t.Things.length) && decide (w.Flags.length = t.Things.length) && decide (w.Props.length = t.Things.length * t.Props.length) && decide (w.Timers.length = t.Daemons.length) && nestedB w.tree &&
  (allB int16 w.Globals && allB int16 w.Props && allB (fun x => fromB x 0 (bitsM t.Flags - 1)) w.Flags && allB (fun x => fromB x 0 32767) w.Timers && int16 w.Score && fromB w.Turns 0 2147483647) &&
  (fromB w.Over 0 3 && fromB w.It 0 (t.Things.length - 1) && fromB w.Go 0 12 && placedM t w)
end Go.Ab

namespace Go.Ab
section
variable {P : Program} {n : Nat} {s : St} {Q : AX → St → Prop}
def DQ (R : Option V → Heap → Prop) : AX → St → Prop
  | .normal, s => R none s.L
  | .ret, s => R none s.L
  | .pan y, s => R (some y) s.L
  | _, _ => False
end
end Go.Ab

namespace Go.Ab
section
variable {P : Program} {n : Nat} {s : St} {Q : AX → St → Prop}
variable {QD : FuncId → List (Nat × Nat) → AX → St → Prop}
end
end Go.Ab

namespace Go.Ab
section
variable {P : Program} {n : Nat} {s : St} {Q : AX → St → Prop}
end
end Go.Ab

namespace Go.Ab
section
variable {P : Program} {n : Nat} {s : St} {Q : AX → St → Prop}
def EDQ (hs : List Nat) (R : Option V → Heap → Prop) (x : AX) (s : St) : Prop :=
  match x with
  | .normal | .ret => (s.pick [] hs).on (keys (s.pick [] hs).L) = true ∧ R none (s.pick [] hs).L
  | .pan y => (s.pick [] hs).on (keys (s.pick [] hs).L) = true ∧ y.on [] = true ∧ R (some y) (s.pick [] hs).L
  | _ => False
attribute [simp] EDQ DQ
theorem AWP.ofK {c} (h : codeK P n c s (kontK P n Q [])) : AWP P n c s Q := codeK_sound _ _ _ h
end
end Go.Ab

namespace Go.Ab
section
variable {P : Program} {n : Nat} {s : St} {Q : AX → St → Prop}
end
end Go.Ab

namespace Go.Ab
section
variable {P : Program} {n : Nat} {s : St} {Q : AX → St → Prop} {ops : Array Oper}
theorem AOps.slNil {o : Oper} {rest} {x y} {t e ty} {kc} {xs} (hop : o.op = .binOp .eql t x y ty) (ht : tyE P t = some (e, kc)) (hx : s.ev x = .d (.sl xs)) (hy : s.ev y = .d (.v (.slice none 0 0))) (hg : o.guard = none) (hd : ∀ d, o.dst = some d → d < n)
    (k : ∀ b : Bool, (b = true → xs = []) → AOps P n ops rest (s.put o.dst (.d (.v (.bool b)))) Q) : AOps P n ops (o :: rest) s Q := by
  intro fo m0 w0 m a w st g
  have hu : P.underlying t = some (.slice e) := by
    grind [tyE, Option.map_eq_some_iff, Prod.mk.injEq]
  have h1 := eval_rel g x
  rw [hx] at h1
  obtain ⟨ad, cap, hv, _, _, kk, b, off, f, ha, _⟩ := h1.d_inv.sl_inv
  have h2 := eval_rel g y
  rw [hy] at h2
  have hv2 := h2.v_inv
  unfold wpListIn
  rw [if_pos (by simp [Region.wanted, hg])]
  have hrun : (execOp a.eval o).run P w = .ok (.value (.bool ad.isNone)) w := by
    simp_all [Lib.run_eql_slice_nil, execOp, eqGuard]
  refine owp_val hrun (.inl rfl) ?_
  refine k ad.isNone (fun hb => ?_) fo m0 w0 m _ w st (g.put hd (.d _ _ (.v _ rfl)))
  grind
theorem row_on ks (ty k : Nat) ys : Res.on ks (.row ty k (dd ys)) = true := by
  simp
theorem ACalls.rowR {f} {args} {L} {ys} {ty} {k} h
    (hyp : ACalls P f args L (fun r L' => (r = .ret (.d (.v (.slice none 0 0))) ∧ L' = [] ∧ ys = []) ∨ (∃ g, r = .ret (.rv g) ∧ L' = [(g, .row ty k (dd ys))]))) :
    ACalls P f args L (fun r L' => r = .ret (.rv h) ∧ L' = [(h, .row ty k (dd ys))]) := by
  intro fo m w xs hi hx
  refine (hyp fo m w xs hi hx).mono ?_
  rintro e w' ⟨m', r, L', hR, he, hi', st⟩
  rcases hR with ⟨rfl, rfl, rfl⟩ | ⟨g, rfl, rfl⟩
  · cases e with
    | returned v =>
      obtain rfl := he.v_inv
      have hnew := hi'.new (h := h) (by simp) (x := .slice none 0 0) (r := .row ty k []) (Nat.le_refl _) (fun _ _ => rfl) (by simp [blk, blk1]) (.inl ⟨rfl, rfl⟩)
      refine ⟨_, _, _, ⟨rfl, rfl⟩, .rv h _ (mset_same _ _) rfl, by simpa using hnew, ⟨st.os, st.tape, st.output, st.size, st.block, fun b hb ho => st.owned b hb ?_⟩⟩
      obtain ⟨i, y, hy, hyb⟩ := ho
      by_cases hih : i = h
      · subst hih; rw [mset_same] at hy; grind [blk, blk1]
      · rw [mset_ne _ hih] at hy; exact ⟨i, y, hy, hyb⟩
    | panicked c => simp_all [Ends]
    | outgrown => simp_all [Ends]
  · cases e with
    | returned v =>
      have hv : m' g = some v ∧ v.oneCell' = true := by
        cases he with
        | rv _ _ e e1 => grind
      let m2 : Nat → Option Value := fun i => if i = h then some v else none
      have hm2 : ∀ i x, m2 i = some x → i = h ∧ x = v := by
        grind
      have hown : ∀ b, own m2 b → own m' b := by
        rintro b ⟨i, x, hx, hb⟩
        obtain ⟨rfl, rfl⟩ := hm2 i x hx
        exact ⟨g, _, hv.1, hb⟩
      have hO : ∀ b, OO fo m2 b → OO fo m' b := fun b hb => hb.imp (hown b) id
      refine ⟨m2, _, _, ⟨rfl, rfl⟩, .rv h v (by grind) hv.2, ⟨by simp, ?_, ?_, ?_, hi'.folt, ?_, hi'.glob.mono (Keep.refl w' _) (fun b _ hb => hO b hb)⟩, ⟨st.os, st.tape, st.output, st.size, st.block, fun b hb ho => st.owned b hb (hown b ho)⟩⟩
      · intro i x hx; obtain ⟨rfl, _⟩ := hm2 i x hx; simp
      · grind
      · intro i x b hx hb
        obtain ⟨rfl, rfl⟩ := hm2 i x hx
        exact hi'.others g _ b hv.1 hb
      · intro i q hq
        simp only [List.mem_singleton, Prod.mk.injEq] at hq
        obtain ⟨rfl, rfl⟩ := hq
        obtain ⟨z, hz, hh⟩ := hi'.holds g _ List.mem_cons_self
        rw [hv.1] at hz
        obtain rfl := Option.some.inj hz
        exact ⟨v, by grind, (hh.on (ks := []) (m' := m2) (by simp) (row_on [] ty k ys)).mono (fun _ _ => rfl) (Keep.refl w' _) (fun b _ hb => hO b hb) (fun _ _ e => e)⟩
    | panicked c => simp_all [Ends]
    | outgrown => simp_all [Ends]
end
end Go.Ab

namespace Go.Ab
open Go.Proofs
end Go.Ab

namespace Go.Ab
open Go.Proofs
theorem isP_ok (w : GWorld) (x : Int) : Pure Tryz.prog 210 [.agg (w.enc.map .d), .d (.v (.int .i64 x))] (.d (.v (.bool (isT w.Parent.length x)))) := by
  refine Pure.run Tryz.func210 rfl (by simp [Tryz.f210]) ?_; simp [-cB, Tryz.f210]
  simp [isT]
end Go.Ab

namespace Go.Ab
section
variable {P : Program} {n : Nat} {s : St} {Q : AX → St → Prop} {L : Heap}
theorem AOps.callX {ops} {o : Oper} {rest} {c} {f} {args} {L1 L2 : Heap} {R} fr (hg : o.guard = none) (hd : ∀ d, o.dst = some d → d < n)
    (hop : o.op = .call c) (hc : callee s.ev c = some (f, args)) (he : enters P f = true) (ho : V.ons (keys L1) args = true) (hL : s.L.Perm (L1 ++ L2)) (hon : L1.all (fun p => Res.on (keys L1) p.2) = true)
    (hfr : ∀ p ∈ fr, p ∈ s.fr ∧ V.on (keys L2 ++ (L1.filterMap fun p => match p.2 with | .box (_ + 1) _ _ => some p.1 | _ => none)) p.2 = true)
    (hL2 : ∀ p ∈ L2, Res.on (keys L2 ++ (L1.filterMap fun p => match p.2 with | .box (_ + 1) _ _ => some p.1 | _ => none)) p.2 = true)
    (h : ACalls P f args L1 R)
    (hstay : ∀ r L1', R r L1' → (∃ x, r = .ret x) ∧ (∀ k ∈ keys L1', k ∉ keys L2) ∧ ∀ k b ty cs, (k, Res.box (b + 1) ty cs) ∈ L1 → ∃ ty' cs', (k, Res.box (b + 1) ty' cs') ∈ L1')
    (k : ∀ x L1', R (.ret x) L1' → AOps P n ops rest (St.put ⟨fr, L1' ++ L2⟩ o.dst x) Q) : AOps P n ops (o :: rest) s Q := by
  intro fo m0 w0 m a w st g
  unfold wpListIn
  rw [if_pos (by simp [Region.wanted, hg])]
  refine call_core hop hc he ho hL hon hL2 h hstay g fun x L1' mm v w' hR hrx hinv stt hbx hkeep hO' => ?_
  have g' : G fo n mm ⟨fr, L1' ++ L2⟩ a w' := ⟨g.size, fun t y hy => by
    obtain ⟨q0, q3⟩ := hfr _ hy
    obtain ⟨q1, q2⟩ := g.fr t y q0
    exact ⟨q1, (q2.on hbx q3).mono hkeep hO' (fun _ _ e => e)⟩, hinv, g.defers⟩
  exact k x L1' hR fo m0 w0 mm _ w' (st.trans stt) (g'.put hd hrx)
end
end Go.Ab

namespace Go.Ab
open Go.Proofs
end Go.Ab

namespace Go.Ab
open Go.Proofs
end Go.Ab

namespace Go.Ab
def cutM (nx : List Int) (x : Int) (l : List Int) : List Int := l.foldl (fun a c => if atI nx c = x then a.set c.toNat (atI nx x) else a) nx
end Go.Ab

namespace Go.Ab
open Go.Proofs
def leaveM (w : GWorld) (x : Int) : GWorld :=
  { w with
    Parent := w.Parent.set x.toNat 0
    Child := if atI w.Parent x ≠ 0 ∧ atI w.Child (atI w.Parent x) = x then w.Child.set (atI w.Parent x).toNat (atI w.Next x) else w.Child
    Next := (if atI w.Parent x = 0 ∨ atI w.Child (atI w.Parent x) = x then w.Next else cutM w.Next x (kidsM w.tree (atI w.Parent x))).set x.toNat 0 }
structure LeaveOk (w : GWorld) (x : Int) : Prop where
  wf : w.wf
  hC : w.Child.length = w.Parent.length
  hN : w.Next.length = w.Parent.length
  hx : isT w.Parent.length x = true
  up : atI w.Parent x = 0 ∨ isT w.Parent.length (atI w.Parent x) = true
end Go.Ab

namespace Go.Ab
open Go.Proofs
structure Wld (w : GWorld) : Prop where
  wf : w.wf
  hC : w.Child.length = w.Parent.length
  hN : w.Next.length = w.Parent.length
  up : ∀ x, isT w.Parent.length x = true → atI w.Parent x = 0 ∨ isT w.Parent.length (atI w.Parent x) = true
def moveM (w : GWorld) (x to : Int) : GWorld :=
  { leaveM w x with
    Parent := (leaveM w x).Parent.set x.toNat to
    Next := (leaveM w x).Next.set x.toNat (atI (leaveM w x).Child to)
    Child := (leaveM w x).Child.set to.toNat x }
def removeR (w : GWorld) (x : Int) : GWorld × Int := if isT w.Parent.length x then (leaveM w x, 0) else (w, 11)
def moveR (w : GWorld) (x to : Int) : GWorld × Int :=
  if isT w.Parent.length x && isT w.Parent.length to then if x ∈ upsM w.tree to then (w, 18) else (moveM w x to, 0) else (w, 11)
end Go.Ab

namespace Go.Ab
open Go.Proofs
def askedM (w : GWorld) (x f : Int) : Int := if isT w.Parent.length x then if 0 ≤ f ∧ f ≤ 15 then 0 else 5 else 11
def placeE (t : GTables) (w : GWorld) (x p : Int) : Int := if isT w.Parent.length x then if 0 ≤ p ∧ p < t.Props.length then 0 else 5 else 11
def propR (t : GTables) (w : GWorld) (x p : Int) : Int × Int := (if placeE t w x p = 0 then w.Props[(x * t.Props.length + p).toNat]?.getD 0 else 0, placeE t w x p)
end Go.Ab

namespace Go.Ab
open Go.Proofs
def putR (t : GTables) (w : GWorld) (x p n : Int) : GWorld × Int := if placeE t w x p = 0 then if int16 n then ({ w with Props := w.Props.set (x * t.Props.length + p).toNat n }, 0) else (w, 1) else (w, placeE t w x p)
end Go.Ab

namespace Go.Ab
end Go.Ab

namespace Go.Ab
open Go.Proofs
end Go.Ab

namespace Go.Ab
open Go.Proofs
def xorM (a b : Int) : Int := IntKind.wrap .u64 ((BitVec.ofInt IntKind.u64.bits a) ^^^ (BitVec.ofInt IntKind.u64.bits b)).toNat
def shrM (a : Int) (k : Nat) : Int := a.fdiv (2 ^ (min k IntKind.u64.bits))
def shlM (a : Int) (k : Nat) : Int := IntKind.wrap .u64 (a * 2 ^ (min k IntKind.u64.bits))
def oneM (s : Int) : Int := if s = 0 then 1 else s
def nextM (s : Int) : Int :=
  let s0 := oneM s
  let s1 := xorM s0 (shrM s0 12)
  let s2 := xorM s1 (shlM s1 25)
  xorM s2 (shrM s2 27)
def mixV (s : Int) : Int := IntKind.wrap .u32 (shrM (IntKind.wrap .u64 (nextM s * 2685821657736338717)) 32)
def mixB (s n : Int) : Int × Int := if n < 1 then (0, s) else ((mixV s) % n, nextM s)
end Go.Ab
