/-
  clewlaw32.VmBegins returns true for every input of bulk at most 1048576, and leaves its arguments as they are. No condition is added to the given statement.
-/
import Derived.Test.YtnajleligcjlkaaGreatDoorRows
import Derived.WalkKit
import Derived.ProofKit
import Derived.OpenShut
import Derived.JoinedCond
import Derived.Test.YtnajleligcjlkaaGreatDoorTie
import Derived.Test.YtnajleligcjlkaaGreatDoorCards
import Derived.SevenTiedAt
import Derived.LaidMore
import Derived.JoinedCond
import Derived.Test.YtnajleligcjlkaaGreatDoorMg8
set_option linter.unusedSimpArgs false
set_option linter.unusedVariables false
namespace Go.Proofs.YtnajleligcjlkaaGreatDoor.vmBegins
open Go.ChangeShapes Go.WideShapes Go.ChangeAt Go.RowKit Go.Ab
mutual
theorem bulkW_eq {H : Type} : ∀ d : DataW H, Rows.uptoBulk d = bulkW d
  | .lit l => by cases l <;> simp [Rows.uptoBulk, bulkW]
  | .nil => by simp [Rows.uptoBulk, bulkW]
  | .ptr d => by simp [Rows.uptoBulk, bulkW, bulkW_eq d]
  | .slice e s => by simp [Rows.uptoBulk, bulkW, bulkAll_eq e, bulkAll_eq s]
  | .agg p => by simp [Rows.uptoBulk, bulkW, bulkAll_eq p]
  | .iface t d => by simp [Rows.uptoBulk, bulkW, bulkW_eq d]
  | .map e => by simp [Rows.uptoBulk, bulkW, bulkEntries_eq e]
  | .held h => by simp [Rows.uptoBulk, bulkW]
theorem bulkAll_eq {H : Type} : ∀ l : List (DataW H), Rows.uptoBulkAll l = bulkAll l
  | [] => by simp [Rows.uptoBulkAll, bulkAll]
  | d :: r => by simp [Rows.uptoBulkAll, bulkAll, bulkW_eq d, bulkAll_eq r]
theorem bulkEntries_eq {H : Type} : ∀ l : List (Lit × DataW H), Rows.uptoBulkEntries l = bulkEntries l
  | [] => by simp [Rows.uptoBulkEntries, bulkEntries]
  | x :: r => by simp [Rows.uptoBulkEntries, bulkEntries, bulkEntry_eq x, bulkEntries_eq r]
theorem bulkEntry_eq {H : Type} : ∀ x : Lit × DataW H, Rows.uptoBulkEntry x = bulkEntry x
  | (l, d) => by cases l <;> simp [Rows.uptoBulkEntry, bulkEntry, bulkW_eq d]
end
theorem small {H : Type} (ds : List (DataW H)) (h : Rows.uptoSmall H ds = true) : bulkAll ds ≤ 1048576 := by
  rw [← bulkAll_eq]
  exact of_decide_eq_true h
theorem own : ownKnob Tryz.prog.godebug = none := by kernel_rfl
theorem doorMet (os : Os) (args : Array Value) : laidMetH Tryz.prog Rows.vmBeginsUptoRow.laid ((World.doorLaid Tryz.prog 24 os).forCall (fun _ _ => 0) ⟨#[], args, []⟩).memory :=
  laidMetH_of_parts3 (fuel := 8) (laidMet_of_run' 8 (by kernel_rfl) (by kernel_rfl)) (by kernel_rfl) (by kernel_rfl)
theorem gName : Tryz.prog.globalNamed "internal/strconv.uint64pow10" = some 0 := by kernel_rfl
theorem gType : (Tryz.prog.globals[0]?).map (·.type) = some 266 := by kernel_rfl
theorem gElem : Tryz.prog.cellsOf 29 = 1 := by kernel_rfl
theorem gl (W : World) (h : laidMetH Tryz.prog Rows.vmBeginsUptoRow.laid W) : Globs W (OO (⟨fun _ => False, [], none, false⟩ : FO) noneM) := by
  rw [MakeChecks.laidMetH_plain _ _ _ (by kernel_rfl)] at h
  obtain ⟨ps, ⟨g0, t0, cs0, f0, p0, q0, hg0, ht0, hv0, hd0, ⟨g1, t1, cs1, f1, p1, q1, hg1, ht1, hv1, hd1, ⟨g2, t2, cs2, f2, p2, q2, hg2, ht2, hv2, hd2, _, _⟩, _⟩, _⟩, _, _⟩ := h
  obtain rfl : 0 = g2 := Option.some.inj (gName.symm.trans hg2)
  obtain rfl : 266 = t2 := Option.some.inj (gType.symm.trans ht2)
  have key : ∀ (i : Nat) (x : Int), ([1, 10, 100, 1000, 10000, 100000, 1000000, 10000000, 100000000, 1000000000, 10000000000, 100000000000, 1000000000000, 10000000000000, 100000000000000, 1000000000000000, 10000000000000000, 100000000000000000, 1000000000000000000, 10000000000000000000] : List Int)[i]? = some x → W.cell? ⟨0, i, none⟩ = some (.int .u64 x) := fun i x hi => by
    rw [World.var?_cell hg2 hv2 i, ← Array.getElem?_toList]
    exact cells_of_laid (k := .u64) Tryz.underlying266 Tryz.underlying29 gElem hd2 i x hi
  intro p hp
  simp only [globs, List.mem_singleton] at hp
  subst hp
  refine ⟨cell_lt (key 0 1 rfl), OO_none _, ?_⟩
  intro j v hj
  have e : ([.int .u64 1, .int .u64 10, .int .u64 100, .int .u64 1000, .int .u64 10000, .int .u64 100000, .int .u64 1000000, .int .u64 10000000, .int .u64 100000000, .int .u64 1000000000, .int .u64 10000000000, .int .u64 100000000000, .int .u64 1000000000000, .int .u64 10000000000000, .int .u64 100000000000000, .int .u64 1000000000000000, .int .u64 10000000000000000, .int .u64 100000000000000000, .int .u64 1000000000000000000, .int .u64 10000000000000000000] : List Value) = ([1, 10, 100, 1000, 10000, 100000, 1000000, 10000000, 100000000, 1000000000, 10000000000, 100000000000, 1000000000000, 10000000000000, 100000000000000, 1000000000000000, 10000000000000000, 100000000000000000, 1000000000000000000, 10000000000000000000] : List Int).map (Value.int .u64) := rfl
  replace hj : ([.int .u64 1, .int .u64 10, .int .u64 100, .int .u64 1000, .int .u64 10000, .int .u64 100000, .int .u64 1000000, .int .u64 10000000, .int .u64 100000000, .int .u64 1000000000, .int .u64 10000000000, .int .u64 100000000000, .int .u64 1000000000000, .int .u64 10000000000000, .int .u64 100000000000000, .int .u64 1000000000000000, .int .u64 10000000000000000, .int .u64 100000000000000000, .int .u64 1000000000000000000, .int .u64 10000000000000000000] : List Value)[j]? = some v := hj
  rw [e, List.getElem?_map] at hj
  obtain ⟨x, hx, rfl⟩ := Option.map_eq_some_iff.1 hj
  exact ⟨rfl, key j x hx⟩
set_option maxRecDepth 100000 in
theorem lifted (os : Os) (started : os.Started) (H : Type) (enc : TypeId × Value → H) (F : Stop.Interp) :
    ReturnsInHanded {} Tryz.checked os 4 .any (OpenSpec.preRow enc Tryz.prog Tryz.f4 (Rows.OpenSpec.upto Rows.vmBeginsSpec) Rows.vmBeginsUptoRow.domain false Rows.vmBeginsUptoRow.laid) ((OpenSpec.at (Rows.OpenSpec.upto Rows.vmBeginsSpec) F).post enc Tryz.prog Tryz.f4 false true false false) := by
  refine row_tied (C := Tryz.checked) (s := (Rows.OpenSpec.upto Rows.vmBeginsSpec)) (F := F) (laid := Rows.vmBeginsUptoRow.laid) 4 gl own started (by kernel_rfl) Tryz.func4
    (witness_tied (enc := enc) (C := Tryz.checked) (os := os) (s := (Rows.OpenSpec.upto Rows.vmBeginsSpec)) (k := Rows.uptoSmall) rfl (laid := Rows.vmBeginsUptoRow.laid) false (World.doorLaid Tryz.prog 24 os) #[.agg #[.int .i64 0, .int .i64 0, .int .i64 0, .int .i64 0, .slice none 0 0, .int .i64 0, .slice none 0 0, .slice none 0 0, .slice none 0 0, .slice none 0 0, .slice none 0 0, .slice none 0 0, .slice none 0 0, .slice none 0 0, .slice none 0 0, .slice none 0 0], .agg #[.slice none 0 0, .slice none 0 0, .slice none 0 0, .slice none 0 0, .slice none 0 0, .slice none 0 0, .slice none 0 0, .int .u64 0, .int .i64 0, .int .i64 0, .int .i64 0, .int .i64 0, .int .i64 0], .agg #[.int .i64 0, .int .i64 0, .int .i64 0, .slice none 0 0, .int .i64 0, .int .i64 0, .int .i64 0]] 8 rfl (World.shaped_of_RefB (by kernel_rfl) (by kernel_rfl)) (by kernel_rfl)
      (x := ([.agg [.agg [.lit (.int .i64 0), .lit (.int .i64 0), .lit (.int .i64 0), .lit (.int .i64 0), .nil, .lit (.int .i64 0), .nil, .nil, .nil, .nil, .nil, .nil, .nil, .nil, .nil], .nil], .agg [.nil, .nil, .nil, .nil, .nil, .nil, .nil, .lit (.int .u64 0), .lit (.int .i64 0), .lit (.int .i64 0), .lit (.int .i64 0), .lit (.int .i64 0), .lit (.int .i64 0)], .agg [.lit (.int .i64 0), .lit (.int .i64 0), .lit (.int .i64 0), .nil, .agg [.lit (.int .i64 0), .lit (.int .i64 0), .lit (.int .i64 0)]]], [], [])) (by kernel_rfl) rfl (by kernel_rfl) (by kernel_rfl) (doorMet os _))
    (by kernel_rfl) (by kernel_rfl) (by kernel_rfl) (by kernel_rfl) Tryz.underlying4 rfl rfl rfl ?_ ?_
  · intro ds h
    have h : ds.length = 3 := h
    match ds, h with
    | [d0, d1, d2], _ => rfl
  · intro yss h hT hB
    have h : yss.length = 3 := h
    match yss, h, hT, hB with
    | [y0, y1, y2], _, hT, hB =>
      have t0 : HasT Tryz.prog 50 y0 := hT 0 50 y0 rfl rfl
      have t1 : HasT Tryz.prog 31 y1 := hT 1 31 y1 rfl rfl
      have t2 : HasT Tryz.prog 58 y2 := hT 2 58 y2 rfl rfl
      obtain ⟨b0', rfl, b0w⟩ := GBook.of t0
      obtain ⟨b1', rfl, b1w⟩ := GWorld.of t1
      obtain ⟨b2', rfl, b2w⟩ := GCall.of t2
      have hp := (vmBegins_up b0' b0w b1' b1w b2' (hB 1048576 (fun ds h => small ds (h _ rfl)))).calls
      have e : ((Tryz.f4.params.toList.zip [b0'.enc, b1'.enc, b2'.enc]).map fun p => argV Tryz.prog p.1 p.2) = [.agg (b0'.enc.map .d), .agg (b1'.enc.map .d), .agg (b2'.enc.map .d)] := by
        simp [Tryz.f4, argV, Tryz.underlying31, Tryz.underlying50, Tryz.underlying58]
      rw [show Tryz.checked.prog = Tryz.prog from rfl, e]
      exact hp
theorem named : Tryz.pinned.checked.prog.funcNamed (Rows.vmBeginsUptoRow).func = some 4 := by kernel_rfl
theorem closed : joinedFacts Tryz.pinned.checked.prog 4 Tryz.f4 (Rows.OpenSpec.upto Rows.vmBeginsSpec).bare Rows.vmBeginsUptoRow = true := by kernel_rfl
theorem inst : Tryz.f4.isInstance Tryz.pinned.checked.prog (Rows.vmBeginsUptoRow).origin (Rows.vmBeginsUptoRow).targs := of_decide_eq_true (by kernel_rfl)
theorem wrap : Tryz.f4.isWrapper Tryz.pinned.checked.prog (Rows.vmBeginsUptoRow).wrapper (Rows.vmBeginsUptoRow).mainSum := by unfold Func.isWrapper; first | (rw [if_pos (by decide +kernel)]; kernel_rfl) | (rw [if_neg (by decide +kernel)]; exact ⟨rfl, rfl⟩)
theorem over : Rows.vmBeginsUptoRow.holds Tryz.pinned (Rows.OpenSpec.upto Rows.vmBeginsSpec) :=
  OpenClaim.holds_of_cond 4 Tryz.f4 rfl rfl rfl rfl rfl rfl rfl ⟨rfl, rfl, rfl, rfl, rfl⟩ rfl rfl rfl rfl rfl named Tryz.func4 closed
    inst wrap (fun os started H enc _ F => lifted os started H enc F)
theorem proved : Rows.VmBeginsUptoCardSaid :=
  Claim7.holds_tied_plain_at .later [] [.data, .data, .data] true (true, "6e176fc247e9fdbdc7ba483c1dc36679a22e3c8a518d6173976f84e5e9193147") true
    over (fun _ h => by cases h) (by kernel_rfl) (fun _ h => by cases h) vmBeginsUpto_row_tie rfl ⟨rfl, rfl⟩ (by kernel_rfl) rfl
    (fun f fn hf hfn => by
      obtain rfl : f = 4 := Option.some.inj ((show Tryz.prog.funcNamed "clew/clewlaw32.VmBegins" = some 4 by kernel_rfl).symm.trans hf) |>.symm
      obtain rfl : fn = Tryz.f4 := (Option.some.inj (Tryz.func4.symm.trans hfn)).symm
      exact ⟨by kernel_rfl, fun j t ht => by
        have hm : t ∈ [50, 31, 58] := by
          have := Array.mem_of_getElem? ht
          simpa [Tryz.f4] using this
        have hall : ([50, 31, 58].all fun u => !Tryz.prog.wantsStandIn u) = true := by kernel_rfl
        exact (show Tryz.prog.wantsStandIn t = false by simpa using List.all_eq_true.1 hall t hm)⟩)
    (by kernel_rfl)
#print axioms proved
end Go.Proofs.YtnajleligcjlkaaGreatDoor.vmBegins
