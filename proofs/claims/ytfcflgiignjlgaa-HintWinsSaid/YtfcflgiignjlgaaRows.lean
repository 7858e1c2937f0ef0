/-
  No cell of these rows narrows 'for every input' (looked for: loops, veiled, ifaces, maps, wideKeys, modest, calm, conditions, laid).
  DERIVED. THE GIVEN ROWS OF THIS SEAT. 4 by the template 'for every input the law returns true; each argument reads behind the call as it read before'; 0 by the template 'total and deterministic' (their statements: YtfcflgiignjlgaaTotals.lean).
  GIVEN WITH THE SEED: the statements are not yours to turn. If you find one false, say at which input.
  Laid BY PROGRAM, IN A SANDBOX (cutbox-rows.mjs): the forced cells as the released guide's own fill.sh prints them over the translation 8e5b107132f30860… (all of the seat's roots in one cut). By AI agents, Wed Nov 11 2026. No macro, syntax, notation, axiom, sorry.
-/
import Derived.Test.YtfcflgiignjlgaaChecked
import GoSem.Claim
import GoSem.ClaimJoined
import GoSem.ClaimMapViews
import Derived.JoinedTies
import Derived.KernelRfl
namespace Go.Proofs.Ytfcflgiignjlgaa
/- THE CELL 'sum', in the pinned program and in every row, IS THE sha256 OF THE DUMP (.gsa) THAT YtfcflgiignjlgaaProg.lean LOADS. Nothing in Lean hashes anything: it is a label: what it is worth is what the hold of that sum in a sandbox is worth. -/
noncomputable def Try.pinned : Pinned := { name := "ytfcflgiignjlgaa", sum := "8e5b107132f308606b684f95e43c659d0ea982d7cd9ba7f33479f91d3d2f69c8", checked := Try.checked }
namespace Rows
def none {H : Type} : Left H := { results := [], args := [] }

/-- 'clewlaw54.HintFar': WHATEVER THE INPUT: true; the input reads as it did. -/
def hintFarSpec : ChangeSpec := { name := "hintFar", fn := fun _ => fun
  | [d] => { results := [.lit (.bool true)], args := [d] }
  | _ => none }
def hintFarRow : OpenClaim := { program := "ytfcflgiignjlgaa", sum := "8e5b107132f308606b684f95e43c659d0ea982d7cd9ba7f33479f91d3d2f69c8", func := "clew/clewlaw54.HintFar", spec := "hintFar", unfollowed := true, recurses := true, apart := false }
def HintFarSaid : Prop := hintFarRow.holds Try.pinned (OpenSpec.ofChange hintFarSpec)

/-- ITS FALSE NEIGHBOUR: 'it returns false'. Refute it at one input. -/
def hintFarWrong : ChangeSpec := { name := "hintFar", fn := fun _ => fun
  | [d] => { results := [.lit (.bool false)], args := [d] }
  | _ => none }
def HintFarWrongFalsely : Prop := hintFarRow.holds Try.pinned (OpenSpec.ofChange hintFarWrong)

/-- 'clewlaw54.HintWins': WHATEVER THE INPUT: true; the input reads as it did. -/
def hintWinsSpec : ChangeSpec := { name := "hintWins", fn := fun _ => fun
  | [d1, d2] => { results := [.lit (.bool true)], args := [d1, d2] }
  | _ => none }
def hintWinsRow : OpenClaim := { program := "ytfcflgiignjlgaa", sum := "8e5b107132f308606b684f95e43c659d0ea982d7cd9ba7f33479f91d3d2f69c8", func := "clew/clewlaw54.HintWins", spec := "hintWins", unfollowed := true, recurses := true, apart := false }
def HintWinsSaid : Prop := hintWinsRow.holds Try.pinned (OpenSpec.ofChange hintWinsSpec)

/-- ITS FALSE NEIGHBOUR: 'it returns false'. Refute it at one input. -/
def hintWinsWrong : ChangeSpec := { name := "hintWins", fn := fun _ => fun
  | [d1, d2] => { results := [.lit (.bool false)], args := [d1, d2] }
  | _ => none }
def HintWinsWrongFalsely : Prop := hintWinsRow.holds Try.pinned (OpenSpec.ofChange hintWinsWrong)

/-- 'clewlaw54.HintLeast': WHATEVER THE INPUT: true; the input reads as it did. -/
def hintLeastSpec : ChangeSpec := { name := "hintLeast", fn := fun _ => fun
  | [d] => { results := [.lit (.bool true)], args := [d] }
  | _ => none }
def hintLeastRow : OpenClaim := { program := "ytfcflgiignjlgaa", sum := "8e5b107132f308606b684f95e43c659d0ea982d7cd9ba7f33479f91d3d2f69c8", func := "clew/clewlaw54.HintLeast", spec := "hintLeast", unfollowed := true, recurses := true, apart := false }
def HintLeastSaid : Prop := hintLeastRow.holds Try.pinned (OpenSpec.ofChange hintLeastSpec)

/-- ITS FALSE NEIGHBOUR: 'it returns false'. Refute it at one input. -/
def hintLeastWrong : ChangeSpec := { name := "hintLeast", fn := fun _ => fun
  | [d] => { results := [.lit (.bool false)], args := [d] }
  | _ => none }
def HintLeastWrongFalsely : Prop := hintLeastRow.holds Try.pinned (OpenSpec.ofChange hintLeastWrong)

/-- 'clewlaw54.HintNext': WHATEVER THE INPUT: true; the input reads as it did. -/
def hintNextSpec : ChangeSpec := { name := "hintNext", fn := fun _ => fun
  | [d1, d2] => { results := [.lit (.bool true)], args := [d1, d2] }
  | _ => none }
def hintNextRow : OpenClaim := { program := "ytfcflgiignjlgaa", sum := "8e5b107132f308606b684f95e43c659d0ea982d7cd9ba7f33479f91d3d2f69c8", func := "clew/clewlaw54.HintNext", spec := "hintNext", unfollowed := true, recurses := true, apart := false }
def HintNextSaid : Prop := hintNextRow.holds Try.pinned (OpenSpec.ofChange hintNextSpec)

/-- ITS FALSE NEIGHBOUR: 'it returns false'. Refute it at one input. -/
def hintNextWrong : ChangeSpec := { name := "hintNext", fn := fun _ => fun
  | [d1, d2] => { results := [.lit (.bool false)], args := [d1, d2] }
  | _ => none }
def HintNextWrongFalsely : Prop := hintNextRow.holds Try.pinned (OpenSpec.ofChange hintNextWrong)

/- THE SECOND FORM. 'bulk': how many values and letters a reading holds, each counted each time it is reached (what is shared counts as often as it is met; a slice's spare places count too). A statement '..UptoSaid' is the law's where the arguments, and the package variables that the reading takes, are together of bulk at most 1048576: NARROWER than '..Said'. Prove '..Said' where nothing that the law and all that it calls make is longer than what came in: it says more and counts as full. Else prove '..UptoSaid'. A law counts once. -/
mutual
def uptoBulk {H : Type} : DataW H → Nat
  | .lit (.string bytes) => bytes.length + 1
  | .lit _ => 1
  | .nil => 1
  | .ptr d => uptoBulk d + 1
  | .slice elems spare => uptoBulkAll elems + uptoBulkAll spare + 1
  | .agg parts => uptoBulkAll parts + 1
  | .iface _ d => uptoBulk d + 1
  | .map entries => uptoBulkEntries entries + 1
  | .held _ => 1
def uptoBulkAll {H : Type} : List (DataW H) → Nat
  | [] => 0
  | d :: r => uptoBulk d + uptoBulkAll r
def uptoBulkEntries {H : Type} : List (Lit × DataW H) → Nat
  | [] => 0
  | x :: r => uptoBulkEntry x + uptoBulkEntries r
def uptoBulkEntry {H : Type} : Lit × DataW H → Nat
  | (.string bytes, d) => bytes.length + uptoBulk d + 1
  | (_, d) => uptoBulk d + 1
 end
def uptoSmall : (H : Type) → List (DataW H) → Bool := fun _ ds => decide (uptoBulkAll ds ≤ 1048576)
def OpenSpec.upto (s : _root_.Go.ChangeSpec) : _root_.Go.OpenSpec := { _root_.Go.OpenSpec.ofChange s with cond := some uptoSmall }

/-- 'clewlaw54.HintFar', WHERE WHAT IT READS IS OF BULK AT MOST 1048576: true; the input reads as it did. -/
def hintFarUptoRow : OpenClaim := { program := "ytfcflgiignjlgaa", sum := "8e5b107132f308606b684f95e43c659d0ea982d7cd9ba7f33479f91d3d2f69c8", func := "clew/clewlaw54.HintFar", spec := "hintFar", unfollowed := true, recurses := true, apart := false, narrowed := true }
def HintFarUptoSaid : Prop := hintFarUptoRow.holds Try.pinned (OpenSpec.upto hintFarSpec)

/-- 'clewlaw54.HintWins', WHERE WHAT IT READS IS OF BULK AT MOST 1048576: true; the input reads as it did. -/
def hintWinsUptoRow : OpenClaim := { program := "ytfcflgiignjlgaa", sum := "8e5b107132f308606b684f95e43c659d0ea982d7cd9ba7f33479f91d3d2f69c8", func := "clew/clewlaw54.HintWins", spec := "hintWins", unfollowed := true, recurses := true, apart := false, narrowed := true }
def HintWinsUptoSaid : Prop := hintWinsUptoRow.holds Try.pinned (OpenSpec.upto hintWinsSpec)

/-- 'clewlaw54.HintLeast', WHERE WHAT IT READS IS OF BULK AT MOST 1048576: true; the input reads as it did. -/
def hintLeastUptoRow : OpenClaim := { program := "ytfcflgiignjlgaa", sum := "8e5b107132f308606b684f95e43c659d0ea982d7cd9ba7f33479f91d3d2f69c8", func := "clew/clewlaw54.HintLeast", spec := "hintLeast", unfollowed := true, recurses := true, apart := false, narrowed := true }
def HintLeastUptoSaid : Prop := hintLeastUptoRow.holds Try.pinned (OpenSpec.upto hintLeastSpec)

/-- 'clewlaw54.HintNext', WHERE WHAT IT READS IS OF BULK AT MOST 1048576: true; the input reads as it did. -/
def hintNextUptoRow : OpenClaim := { program := "ytfcflgiignjlgaa", sum := "8e5b107132f308606b684f95e43c659d0ea982d7cd9ba7f33479f91d3d2f69c8", func := "clew/clewlaw54.HintNext", spec := "hintNext", unfollowed := true, recurses := true, apart := false, narrowed := true }
def HintNextUptoSaid : Prop := hintNextUptoRow.holds Try.pinned (OpenSpec.upto hintNextSpec)

end Rows
end Go.Proofs.Ytfcflgiignjlgaa
