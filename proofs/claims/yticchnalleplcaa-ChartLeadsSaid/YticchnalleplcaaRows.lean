/-
  NARROWER THAN 'FOR EVERY INPUT', by the rows' own cells (each row's printed sentence says how): GenExprs: loops · GenTicks: loops · GenBlocks: loops · GenMay: loops.
  DERIVED. THE GIVEN ROWS OF THIS SEAT. 8 by the template 'for every input the law returns true; each argument reads behind the call as it read before'; 0 by the template 'total and deterministic' (their statements: YticchnalleplcaaTotals.lean).
  GIVEN WITH THE SEED: the statements are not yours to turn. If you find one false, say at which input.
  Laid BY PROGRAM, IN A SANDBOX (cutbox-rows.mjs): the forced cells as the released guide's own fill.sh prints them over the translation 4831d6d3fe64a1da… (all of the seat's roots in one cut). By AI agents, Wed Nov 11 2026. No macro, syntax, notation, axiom, sorry.
-/
import Derived.Test.YticchnalleplcaaChecked
import GoSem.Claim
import GoSem.ClaimJoined
import GoSem.ClaimMapViews
import Derived.JoinedTies
import Derived.KernelRfl
namespace Go.Proofs.Yticchnalleplcaa
/- THE CELL 'sum', in the pinned program and in every row, IS THE sha256 OF THE DUMP (.gsa) THAT YticchnalleplcaaProg.lean LOADS. Nothing in Lean hashes anything: it is a label: what it is worth is what the hold of that sum in a sandbox is worth. -/
noncomputable def Try.pinned : Pinned := { name := "yticchnalleplcaa", sum := "4831d6d3fe64a1da601da186e40cc6eda65f1cb6c842bcf263d4465c500cd930", checked := Try.checked }
namespace Rows
def none {H : Type} : Left H := { results := [], args := [] }

/-- 'clewlaw55.ChartPath': WHATEVER THE INPUT: true; the input reads as it did. -/
def chartPathSpec : ChangeSpec := { name := "chartPath", fn := fun _ => fun
  | [d1, d2, d3] => { results := [.lit (.bool true)], args := [d1, d2, d3] }
  | _ => none }
def chartPathRow : OpenClaim := { program := "yticchnalleplcaa", sum := "4831d6d3fe64a1da601da186e40cc6eda65f1cb6c842bcf263d4465c500cd930", func := "clew/clewlaw55.ChartPath", spec := "chartPath", inPlace := ["internal/abi.NoEscape"], unfollowed := true, recurses := true, apart := false }
def ChartPathSaid : Prop := chartPathRow.holds Try.pinned (OpenSpec.ofChange chartPathSpec)

/-- ITS FALSE NEIGHBOUR: 'it returns false'. Refute it at one input. -/
def chartPathWrong : ChangeSpec := { name := "chartPath", fn := fun _ => fun
  | [d1, d2, d3] => { results := [.lit (.bool false)], args := [d1, d2, d3] }
  | _ => none }
def ChartPathWrongFalsely : Prop := chartPathRow.holds Try.pinned (OpenSpec.ofChange chartPathWrong)

/-- 'clewlaw55.ChartLeads': WHATEVER THE INPUT: true; the input reads as it did. -/
def chartLeadsSpec : ChangeSpec := { name := "chartLeads", fn := fun _ => fun
  | [d1, d2, d3] => { results := [.lit (.bool true)], args := [d1, d2, d3] }
  | _ => none }
def chartLeadsRow : OpenClaim := { program := "yticchnalleplcaa", sum := "4831d6d3fe64a1da601da186e40cc6eda65f1cb6c842bcf263d4465c500cd930", func := "clew/clewlaw55.ChartLeads", spec := "chartLeads", inPlace := ["internal/abi.NoEscape"], unfollowed := true, recurses := true, apart := false }
def ChartLeadsSaid : Prop := chartLeadsRow.holds Try.pinned (OpenSpec.ofChange chartLeadsSpec)

/-- ITS FALSE NEIGHBOUR: 'it returns false'. Refute it at one input. -/
def chartLeadsWrong : ChangeSpec := { name := "chartLeads", fn := fun _ => fun
  | [d1, d2, d3] => { results := [.lit (.bool false)], args := [d1, d2, d3] }
  | _ => none }
def ChartLeadsWrongFalsely : Prop := chartLeadsRow.holds Try.pinned (OpenSpec.ofChange chartLeadsWrong)

/-- 'clewlaw55.ChartRooms': WHATEVER THE INPUT: true; the input reads as it did. -/
def chartRoomsSpec : ChangeSpec := { name := "chartRooms", fn := fun _ => fun
  | [d1, d2, d3] => { results := [.lit (.bool true)], args := [d1, d2, d3] }
  | _ => none }
def chartRoomsRow : OpenClaim := { program := "yticchnalleplcaa", sum := "4831d6d3fe64a1da601da186e40cc6eda65f1cb6c842bcf263d4465c500cd930", func := "clew/clewlaw55.ChartRooms", spec := "chartRooms", inPlace := ["internal/abi.NoEscape"], unfollowed := true, recurses := true, apart := false }
def ChartRoomsSaid : Prop := chartRoomsRow.holds Try.pinned (OpenSpec.ofChange chartRoomsSpec)

/-- ITS FALSE NEIGHBOUR: 'it returns false'. Refute it at one input. -/
def chartRoomsWrong : ChangeSpec := { name := "chartRooms", fn := fun _ => fun
  | [d1, d2, d3] => { results := [.lit (.bool false)], args := [d1, d2, d3] }
  | _ => none }
def ChartRoomsWrongFalsely : Prop := chartRoomsRow.holds Try.pinned (OpenSpec.ofChange chartRoomsWrong)

/-- 'clewlaw55.ChartBack': WHATEVER THE INPUT: true; the input reads as it did. -/
def chartBackSpec : ChangeSpec := { name := "chartBack", fn := fun _ => fun
  | [d] => { results := [.lit (.bool true)], args := [d] }
  | _ => none }
def chartBackRow : OpenClaim := { program := "yticchnalleplcaa", sum := "4831d6d3fe64a1da601da186e40cc6eda65f1cb6c842bcf263d4465c500cd930", func := "clew/clewlaw55.ChartBack", spec := "chartBack", inPlace := ["internal/abi.NoEscape"], unfollowed := true, recurses := true, apart := false }
def ChartBackSaid : Prop := chartBackRow.holds Try.pinned (OpenSpec.ofChange chartBackSpec)

/-- ITS FALSE NEIGHBOUR: 'it returns false'. Refute it at one input. -/
def chartBackWrong : ChangeSpec := { name := "chartBack", fn := fun _ => fun
  | [d] => { results := [.lit (.bool false)], args := [d] }
  | _ => none }
def ChartBackWrongFalsely : Prop := chartBackRow.holds Try.pinned (OpenSpec.ofChange chartBackWrong)

/-- 'clewlaw28.GenExprs': WHATEVER THE INPUT: true; the input reads as it did. -/
def genExprsSpec : ChangeSpec := { name := "genExprs", fn := fun _ => fun
  | [d1, d2, d3] => { results := [.lit (.bool true)], args := [d1, d2, d3] }
  | _ => none }
def genExprsRow : OpenClaim := { program := "yticchnalleplcaa", sum := "4831d6d3fe64a1da601da186e40cc6eda65f1cb6c842bcf263d4465c500cd930", func := "clew/clewlaw28.GenExprs", spec := "genExprs", unfollowed := true, recurses := true, loops := true, apart := false }
def GenExprsSaid : Prop := genExprsRow.holds Try.pinned (OpenSpec.ofChange genExprsSpec)

/-- ITS FALSE NEIGHBOUR: 'it returns false'. Refute it at one input. -/
def genExprsWrong : ChangeSpec := { name := "genExprs", fn := fun _ => fun
  | [d1, d2, d3] => { results := [.lit (.bool false)], args := [d1, d2, d3] }
  | _ => none }
def GenExprsWrongFalsely : Prop := genExprsRow.holds Try.pinned (OpenSpec.ofChange genExprsWrong)

/-- 'clewlaw28.GenTicks': WHATEVER THE INPUT: true; the input reads as it did. -/
def genTicksSpec : ChangeSpec := { name := "genTicks", fn := fun _ => fun
  | [d1, d2, d3] => { results := [.lit (.bool true)], args := [d1, d2, d3] }
  | _ => none }
def genTicksRow : OpenClaim := { program := "yticchnalleplcaa", sum := "4831d6d3fe64a1da601da186e40cc6eda65f1cb6c842bcf263d4465c500cd930", func := "clew/clewlaw28.GenTicks", spec := "genTicks", unfollowed := true, recurses := true, loops := true, apart := false }
def GenTicksSaid : Prop := genTicksRow.holds Try.pinned (OpenSpec.ofChange genTicksSpec)

/-- ITS FALSE NEIGHBOUR: 'it returns false'. Refute it at one input. -/
def genTicksWrong : ChangeSpec := { name := "genTicks", fn := fun _ => fun
  | [d1, d2, d3] => { results := [.lit (.bool false)], args := [d1, d2, d3] }
  | _ => none }
def GenTicksWrongFalsely : Prop := genTicksRow.holds Try.pinned (OpenSpec.ofChange genTicksWrong)

/-- 'clewlaw28.GenBlocks': WHATEVER THE INPUT: true; the input reads as it did. -/
def genBlocksSpec : ChangeSpec := { name := "genBlocks", fn := fun _ => fun
  | [d1, d2, d3] => { results := [.lit (.bool true)], args := [d1, d2, d3] }
  | _ => none }
def genBlocksRow : OpenClaim := { program := "yticchnalleplcaa", sum := "4831d6d3fe64a1da601da186e40cc6eda65f1cb6c842bcf263d4465c500cd930", func := "clew/clewlaw28.GenBlocks", spec := "genBlocks", unfollowed := true, recurses := true, loops := true, apart := false }
def GenBlocksSaid : Prop := genBlocksRow.holds Try.pinned (OpenSpec.ofChange genBlocksSpec)

/-- ITS FALSE NEIGHBOUR: 'it returns false'. Refute it at one input. -/
def genBlocksWrong : ChangeSpec := { name := "genBlocks", fn := fun _ => fun
  | [d1, d2, d3] => { results := [.lit (.bool false)], args := [d1, d2, d3] }
  | _ => none }
def GenBlocksWrongFalsely : Prop := genBlocksRow.holds Try.pinned (OpenSpec.ofChange genBlocksWrong)

/-- 'clewlaw28.GenMay': WHATEVER THE INPUT: true; the input reads as it did. -/
def genMaySpec : ChangeSpec := { name := "genMay", fn := fun _ => fun
  | [d1, d2, d3] => { results := [.lit (.bool true)], args := [d1, d2, d3] }
  | _ => none }
def genMayRow : OpenClaim := { program := "yticchnalleplcaa", sum := "4831d6d3fe64a1da601da186e40cc6eda65f1cb6c842bcf263d4465c500cd930", func := "clew/clewlaw28.GenMay", spec := "genMay", unfollowed := true, recurses := true, loops := true, apart := false }
def GenMaySaid : Prop := genMayRow.holds Try.pinned (OpenSpec.ofChange genMaySpec)

/-- ITS FALSE NEIGHBOUR: 'it returns false'. Refute it at one input. -/
def genMayWrong : ChangeSpec := { name := "genMay", fn := fun _ => fun
  | [d1, d2, d3] => { results := [.lit (.bool false)], args := [d1, d2, d3] }
  | _ => none }
def GenMayWrongFalsely : Prop := genMayRow.holds Try.pinned (OpenSpec.ofChange genMayWrong)

/- THE SECOND FORM. 'bulk': how many values and letters a reading holds, each counted each time it is reached (what is shared counts as often as it is met; a slice's spare places count too). A statement '..UptoSaid' is the law's where the arguments, and the package variables that the reading takes, are together of bulk at most 1048576: NARROWER than '..Said'. Prove '..Said' where nothing that the law and all that it calls make is longer than what came in: it says more and counts as full. Else prove '..UptoSaid'. A law counts once. -/
mutual
def uptoBulk {H : Type} : DataW H → Nat
  | .lit (.string bytes) => bytes.length + 1
  | .lit _ => 1
  | .nil => 1
  | .ptr d => uptoBulk d + 1
  | .slice elems spare => uptoBulkAll elems + uptoBulkAll spare + 1
  | .agg parts => uptoBulkAll parts + 1
  | .iface _ d => uptoBulk d + 1
  | .map entries => uptoBulkEntries entries + 1
  | .held _ => 1
def uptoBulkAll {H : Type} : List (DataW H) → Nat
  | [] => 0
  | d :: r => uptoBulk d + uptoBulkAll r
def uptoBulkEntries {H : Type} : List (Lit × DataW H) → Nat
  | [] => 0
  | x :: r => uptoBulkEntry x + uptoBulkEntries r
def uptoBulkEntry {H : Type} : Lit × DataW H → Nat
  | (.string bytes, d) => bytes.length + uptoBulk d + 1
  | (_, d) => uptoBulk d + 1
 end
def uptoSmall : (H : Type) → List (DataW H) → Bool := fun _ ds => decide (uptoBulkAll ds ≤ 1048576)
def OpenSpec.upto (s : _root_.Go.ChangeSpec) : _root_.Go.OpenSpec := { _root_.Go.OpenSpec.ofChange s with cond := some uptoSmall }

/-- 'clewlaw55.ChartPath', WHERE WHAT IT READS IS OF BULK AT MOST 1048576: true; the input reads as it did. -/
def chartPathUptoRow : OpenClaim := { program := "yticchnalleplcaa", sum := "4831d6d3fe64a1da601da186e40cc6eda65f1cb6c842bcf263d4465c500cd930", func := "clew/clewlaw55.ChartPath", spec := "chartPath", inPlace := ["internal/abi.NoEscape"], unfollowed := true, recurses := true, apart := false, narrowed := true }
def ChartPathUptoSaid : Prop := chartPathUptoRow.holds Try.pinned (OpenSpec.upto chartPathSpec)

/-- 'clewlaw55.ChartLeads', WHERE WHAT IT READS IS OF BULK AT MOST 1048576: true; the input reads as it did. -/
def chartLeadsUptoRow : OpenClaim := { program := "yticchnalleplcaa", sum := "4831d6d3fe64a1da601da186e40cc6eda65f1cb6c842bcf263d4465c500cd930", func := "clew/clewlaw55.ChartLeads", spec := "chartLeads", inPlace := ["internal/abi.NoEscape"], unfollowed := true, recurses := true, apart := false, narrowed := true }
def ChartLeadsUptoSaid : Prop := chartLeadsUptoRow.holds Try.pinned (OpenSpec.upto chartLeadsSpec)

/-- 'clewlaw55.ChartRooms', WHERE WHAT IT READS IS OF BULK AT MOST 1048576: true; the input reads as it did. -/
def chartRoomsUptoRow : OpenClaim := { program := "yticchnalleplcaa", sum := "4831d6d3fe64a1da601da186e40cc6eda65f1cb6c842bcf263d4465c500cd930", func := "clew/clewlaw55.ChartRooms", spec := "chartRooms", inPlace := ["internal/abi.NoEscape"], unfollowed := true, recurses := true, apart := false, narrowed := true }
def ChartRoomsUptoSaid : Prop := chartRoomsUptoRow.holds Try.pinned (OpenSpec.upto chartRoomsSpec)

/-- 'clewlaw55.ChartBack', WHERE WHAT IT READS IS OF BULK AT MOST 1048576: true; the input reads as it did. -/
def chartBackUptoRow : OpenClaim := { program := "yticchnalleplcaa", sum := "4831d6d3fe64a1da601da186e40cc6eda65f1cb6c842bcf263d4465c500cd930", func := "clew/clewlaw55.ChartBack", spec := "chartBack", inPlace := ["internal/abi.NoEscape"], unfollowed := true, recurses := true, apart := false, narrowed := true }
def ChartBackUptoSaid : Prop := chartBackUptoRow.holds Try.pinned (OpenSpec.upto chartBackSpec)

/-- 'clewlaw28.GenExprs', WHERE WHAT IT READS IS OF BULK AT MOST 1048576: true; the input reads as it did. -/
def genExprsUptoRow : OpenClaim := { program := "yticchnalleplcaa", sum := "4831d6d3fe64a1da601da186e40cc6eda65f1cb6c842bcf263d4465c500cd930", func := "clew/clewlaw28.GenExprs", spec := "genExprs", unfollowed := true, recurses := true, loops := true, apart := false, narrowed := true }
def GenExprsUptoSaid : Prop := genExprsUptoRow.holds Try.pinned (OpenSpec.upto genExprsSpec)

/-- 'clewlaw28.GenTicks', WHERE WHAT IT READS IS OF BULK AT MOST 1048576: true; the input reads as it did. -/
def genTicksUptoRow : OpenClaim := { program := "yticchnalleplcaa", sum := "4831d6d3fe64a1da601da186e40cc6eda65f1cb6c842bcf263d4465c500cd930", func := "clew/clewlaw28.GenTicks", spec := "genTicks", unfollowed := true, recurses := true, loops := true, apart := false, narrowed := true }
def GenTicksUptoSaid : Prop := genTicksUptoRow.holds Try.pinned (OpenSpec.upto genTicksSpec)

/-- 'clewlaw28.GenBlocks', WHERE WHAT IT READS IS OF BULK AT MOST 1048576: true; the input reads as it did. -/
def genBlocksUptoRow : OpenClaim := { program := "yticchnalleplcaa", sum := "4831d6d3fe64a1da601da186e40cc6eda65f1cb6c842bcf263d4465c500cd930", func := "clew/clewlaw28.GenBlocks", spec := "genBlocks", unfollowed := true, recurses := true, loops := true, apart := false, narrowed := true }
def GenBlocksUptoSaid : Prop := genBlocksUptoRow.holds Try.pinned (OpenSpec.upto genBlocksSpec)

/-- 'clewlaw28.GenMay', WHERE WHAT IT READS IS OF BULK AT MOST 1048576: true; the input reads as it did. -/
def genMayUptoRow : OpenClaim := { program := "yticchnalleplcaa", sum := "4831d6d3fe64a1da601da186e40cc6eda65f1cb6c842bcf263d4465c500cd930", func := "clew/clewlaw28.GenMay", spec := "genMay", unfollowed := true, recurses := true, loops := true, apart := false, narrowed := true }
def GenMayUptoSaid : Prop := genMayUptoRow.holds Try.pinned (OpenSpec.upto genMaySpec)

end Rows
end Go.Proofs.Yticchnalleplcaa
