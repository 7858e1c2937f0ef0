/-
  The engine, part Z: from a function's contract to its row.
-/
import Derived.Test.YticchnalleplcaaAbY
set_option linter.unusedSimpArgs false
set_option linter.unusedVariables false
namespace Go.Ab
open Go.ChangeShapes Go.WideShapes Go.RowKit

/-- The value of an argument of a type. -/
def argV (P : Program) (t : TypeId) (ys : List D) : V :=
  match P.underlying t with
  | some (.struct _) | some (.array _ _) => .agg (ys.map .d)
  | _ => match ys with
    | [y] => .d y
    | _ => .any

section
variable {H : Type} {enc : TypeId × Value → H} {P : Program} {w : World}

theorem argV_rel {base : Nat} {t : TypeId} {v : Value} {ys : List D} (hc : RelC w v.cells.toList ys) (hok : Value.okWide P w .any base t v) : RelV w (OO (fun _ => False) noneM) noneM v (argV P t ys) := by
  have up : ∀ x y, RelD w (fun _ => False) x y → RelD w (OO (fun _ => False) noneM) x y := fun x y h =>
    h.mono (w := w) (Keep.refl _ _) (fun b _ ho => by rcases ho with ho | ho; exact absurd ho (noneM_own b); exact ho)
  have ag : ∀ cs : Array Value, v = .agg cs → RelV w (OO (fun _ => False) noneM) noneM v (.agg (ys.map .d)) := by
    rintro cs rfl
    have hcs : (Value.agg cs).cells.toList = cs.toList := rfl
    rw [hcs] at hc
    refine .agg cs _ (by simpa using hc.1) (fun j x hx => ?_) (fun j x y hx hy => ?_)
    · have hj : j < ys.length := by rw [← hc.1]; simpa using (Array.getElem?_eq_some_iff.1 hx).1
      exact (hc.2 j x _ (by simpa using hx) (List.getElem?_eq_getElem hj)).1
    · simp only [List.getElem?_map, Option.map_eq_some_iff] at hy
      obtain ⟨y', hy', rfl⟩ := hy
      exact .d _ _ (up _ _ (hc.2 j x _ (by simpa using hx) hy').2)
  unfold argV
  split
  · rename_i fs hu
    rw [Value.okWide, hu] at hok
    obtain ⟨cs, hv, _⟩ := hok
    exact ag cs hv
  · rename_i n e hu
    rw [Value.okWide, hu] at hok
    obtain ⟨cs, hv, _⟩ := hok
    exact ag cs hv
  · rename_i h1 h2
    split
    · rename_i y
      have hne : ∀ cs, v ≠ .agg cs := by
        rintro cs rfl
        rw [Value.okWide] at hok
        split at hok
        · rename_i fs hu; exact h1 fs hu
        · rename_i n e hu; exact h2 n e hu
        · unfold Cell.okWide at hok
          split at hok <;> first | (rename_i h; cases h; done) | skip
          unfold Cell.ok at hok
          split at hok <;> first | (rename_i h; cases h; done) | exact hok | simp_all
      have hcells : v.cells.toList = [v] := by
        cases v <;> first | rfl | exact absurd rfl (hne _)
      rw [hcells] at hc
      exact .d _ _ (up _ _ (hc.2 0 v y rfl rfl).2)
    · exact .any _

theorem open_all (hf : fineB P = true) {base : Nat} : ∀ (ts : List TypeId) (vs : List Value) (ds : List (DataW H)) (ps : List MemPlace), (∀ t ∈ ts, t < P.types.size) →
    DataW.TrodAll enc P w 0 (fun _ => true) true ts vs ds ps → (∀ n ∈ DataW.weightsEach P ts ds, n ≤ reachBytes) →
    (∀ (j : Nat) t v, ts[j]? = some t → vs[j]? = some v → Value.okWide P w .any base t v) →
    ∃ yss : List (List D), yss.length = ts.length ∧ (∀ (i : Nat) t ys, ts[i]? = some t → yss[i]? = some ys → HasT P t ys) ∧ vs.length = ts.length ∧ ds.length = ts.length ∧
      ∀ (j : Nat) x y, vs[j]? = some x → ((ts.zip yss).map fun p => argV P p.1 p.2)[j]? = some y → RelV w (OO (fun _ => False) noneM) noneM x y
  | [], [], [], _, _, _, _, _ => ⟨[], rfl, by simp, rfl, rfl, by simp⟩
  | t :: ts, v :: vs, d :: ds, ps, ht, h, hw, hok => by
    obtain ⟨p, q, h0, hr, rfl⟩ := h
    simp only [DataW.weightsEach, List.mem_append] at hw
    obtain ⟨yss, a1, a2, a3, a4, a5⟩ := open_all hf ts vs ds q (fun t h => ht t (List.mem_cons_of_mem _ h)) hr (fun n hn => hw n (.inr hn)) (fun j t v h1 h2 => hok (j + 1) t v (by simpa using h1) (by simpa using h2))
    obtain ⟨fuel, h0⟩ := h0
    obtain ⟨ys, b1, b2⟩ := open_trod hf fuel t _ d p (ht t List.mem_cons_self) h0 (fun n hn => hw n (.inl hn))
    refine ⟨ys :: yss, by simp [a1], fun i t' ys' hi hy => ?_, by simp [a3], by simp [a4], fun j x y hx hy => ?_⟩
    · cases i with
      | zero => simp at hi hy; subst hi; subst hy; exact b2
      | succ i => exact a2 i t' ys' (by simpa using hi) (by simpa using hy)
    · cases j with
      | zero => simp at hx hy; subst hx; subst hy; exact argV_rel b1 (hok 0 t v rfl rfl)
      | succ j => exact a5 j x y (by simpa using hx) (by simpa using hy)
  | [], [], _ :: _, _, _, h, _, _ => h.elim
  | [], _ :: _, _, _, _, h, _, _ => h.elim
  | _ :: _, [], _, _, _, h, _, _ => h.elim
  | _ :: _, _ :: _, [], _, _, h, _, _ => h.elim

theorem trod_all_stays (hl : laidOutB P = true) {W W' : World} (hb : Below W.heap.size W W') : ∀ (ts : List TypeId) (vs : List Value) (ds : List (DataW H)) (ps : List MemPlace), (∀ t ∈ ts, P.readableRec t = true ∧ t < P.types.size) →
    DataW.TrodAll enc P W 0 (fun _ => true) true ts vs ds ps → (∀ x ∈ ps, x.block < W.heap.size) → DataW.TrodAll enc P W' 0 (fun b => decide (b < W.heap.size)) true ts vs ds ps
  | [], [], [], _, _, h, _ => h
  | t :: ts, v :: vs, d :: ds, ps, ht, h, hlt => by
    obtain ⟨p, q, h0, hr, rfl⟩ := h
    exact ⟨p, q, Below.trod hl (ht t List.mem_cons_self).1 (ht t List.mem_cons_self).2 h0 hb (fun x hx => hlt x (List.mem_append_left _ hx)),
      trod_all_stays hl hb ts vs ds q (fun t h => ht t (List.mem_cons_of_mem _ h)) hr (fun x hx => hlt x (List.mem_append_right _ hx)), rfl⟩
  | [], [], _ :: _, _, _, h, _ => h.elim
  | [], _ :: _, _, _, _, h, _ => h.elim
  | _ :: _, [], _, _, _, h, _ => h.elim
  | _ :: _, _ :: _, [], _, _, h, _ => h.elim
end

/-- The row of a function that returns true and leaves its arguments as they are. -/
theorem row_lifted {H : Type} {enc : TypeId × Value → H} {C : Checked} {os : Os} {f : FuncId} {fn : Func} {s : ChangeSpec} {a : Assume} {conds : List PathCond} {fresh handsOn : Bool} (tb : TypeId)
    (own : ownKnob C.prog.godebug = none) (started : os.Started) (noInit : C.prog.inits.idxOf? f = none) (hfn : C.prog.funcs[f]? = some fn)
    (witness : ∃ (w : World) (tape : Tape) (i : Input), w.os = os ∧ (w.forCall tape i).Shaped C.prog ∧ i.vars = [] ∧ Input.okWide C.prog (w.forCall tape i) .any w.heap.size f i ∧
      s.pre6 enc C.prog fn conds false (w.forCall tape i).memory i.args ∧ a.holds C.prog (lone (Frame.enter C.prog f i.args .normal) [] (w.forCall tape i)))
    (hfine : fineB C.prog = true) (laid : laidOutB C.prog = true)
    (hps : fn.params.toList.all (fun t => C.prog.readableRec t && decide (t < C.prog.types.size)) = true)
    (hres : fn.resultTypes = #[tb]) (htb : C.prog.underlying tb = some .bool) (hv : s.vars = [])
    (hs : ∀ ds : List (DataW H), ds.length = fn.params.size → s.fn H ds = { results := [.lit (.bool true)], args := ds })
    (walk : ∀ yss : List (List D), yss.length = fn.params.size → (∀ (i : Nat) t ys, fn.params[i]? = some t → yss[i]? = some ys → HasT C.prog t ys) →
      ACalls C.prog f ((fn.params.toList.zip yss).map fun p => argV C.prog p.1 p.2) [] (fun r _ => r = .ret (.d (.v (.bool true))))) :
    ReturnsInHanded a C os f .any (s.pre6 enc C.prog fn conds false) (s.post enc C.prog fn false fresh handsOn false) := by
  refine returnsInHanded_of_change_sized own started noInit hfn witness ?_
  intro W base args ds gs before hval hW _ hwt _
  have hW' := hW
  obtain ⟨p, q, hA, hV, rfl, hfz, hnd⟩ := hW
  rw [hv] at hV
  obtain ⟨rfl, rfl⟩ := trodVars_none hV
  simp only [List.append_nil] at hwt hW' ⊢
  rw [show s.plain.varTypes C.prog = [] by simp [ChangeSpec.plain, DataSpec.varTypes, hv], List.append_nil] at hwt
  have hps' : ∀ t ∈ fn.params.toList, C.prog.readableRec t = true ∧ t < C.prog.types.size := fun t h => by
    have := List.all_eq_true.1 hps t h
    simpa using this
  obtain ⟨yss, y1, y2, y3, y4, y5⟩ := open_all (base := base) hfine fn.params.toList args.toList ds p (fun t h => (hps' t h).2) hA (fun n hn => by simpa using List.all_eq_true.1 hwt n hn) (fun j t v h1 h2 => hval j t v (by simpa using h1) (by simpa using h2))
  have hc := walk yss (by simpa using y1) (fun i t ys h1 h2 => y2 i t ys (by simpa using h1) h2)
  refine (hc (fun _ => False) noneM W args ⟨by simp [keys], by simp [noneM], by simp [noneM], by simp [noneM], by simp, by simp⟩ ⟨by simp at y1 y3; simp [y1, y3], fun j x y hx hy => y5 j x y (by simpa using hx) hy⟩).mono fun e W' ⟨m', r, L', hr, he, hi, hst⟩ => ?_
  subst hr
  cases e with
  | returned v =>
    simp only [Ends] at he
    have hb := he.bool_inv
    subst hb
    have bel : Below W.heap.size W W' := ⟨hst.os, hst.tape, hst.output, hst.size, fun k hk => hst.block k hk (noneM_own k)⟩
    have hlt : ∀ x ∈ p, x.block < W.heap.size := fun x hx => hW'.lt x (by simpa using hx)
    refine ⟨_, rfl, ds, [], p ++ [], [], p, [], by simpa using hW', ?_, ?_, by simp [hv, DataW.TrodVars, List.append_nil, hs ds (by simpa using y4)], bel.frame _, fun h => by cases h⟩
    · rw [List.append_nil, hs ds (by simpa using y4), hres]
      exact trodAll_mk1 (shut_bool htb _)
    · rw [List.append_nil, hs ds (by simpa using y4)]
      exact trod_all_stays laid bel _ _ _ _ hps' hA hlt
  | panicked c => simp only [Ends] at he
  | _ => simp only [Ends] at he
end Go.Ab
