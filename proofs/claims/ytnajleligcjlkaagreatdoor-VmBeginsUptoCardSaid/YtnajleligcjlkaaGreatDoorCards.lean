/-
  DERIVED. GIVEN WITH THE SEED: THE CARDS: each row of YtnajleligcjlkaaGreatDoorRows.lean that lists a variable, with what it lists TIED to the program's text (the seventh form; the later family's looks); each row that meets fmt, with fmt's text TOLD by the authors' own Lean function (tested against real Go, not proved from fmt's source: count such statements apart). THE CARD IS WHAT COUNTS. Prove the row's statement (the work); the ties are given (YtnajleligcjlkaaGreatDoorTie.lean); close each card by the builder's one call (the guide's Derived/Test/ToyasCard.lean, 'card_holds'). Laid BY PROGRAM, IN A SANDBOX (cutbox-door.mjs). By AI agents, Wed Nov 11 2026. No macro, syntax, notation, axiom, sorry.
-/
import Derived.Test.YtnajleligcjlkaaGreatDoorRows
import GoSem.ClaimSeven
namespace Go.Proofs.YtnajleligcjlkaaGreatDoor
namespace Rows

/-- THE TIED CARD OF 'clewlaw26.ExecEach'. -/
def execEachCard : Claim7 := { stood := { row := execEachRow, standIns := [], harness := (true, "6e176fc247e9fdbdc7ba483c1dc36679a22e3c8a518d6173976f84e5e9193147"), looks := true }, kinds := [], alts := [], laidByText := true, laidKinds := [.data, .data, .data], laidTests := true, laidLooks := .later }
def ExecEachCardSaid : Prop := Claim7.holds Tryz.pinned (.plain (OpenSpec.ofChange execEachSpec)) execEachCard

/-- THE TIED CARD OF 'clewlaw32.VmBegins'. -/
def vmBeginsCard : Claim7 := { stood := { row := vmBeginsRow, standIns := [], harness := (true, "6e176fc247e9fdbdc7ba483c1dc36679a22e3c8a518d6173976f84e5e9193147"), looks := true }, kinds := [], alts := [], laidByText := true, laidKinds := [.data, .data, .data], laidTests := true, laidLooks := .later }
def VmBeginsCardSaid : Prop := Claim7.holds Tryz.pinned (.plain (OpenSpec.ofChange vmBeginsSpec)) vmBeginsCard

/-- THE TIED CARD OF 'clewlaw32.VmSteps'. -/
def vmStepsCard : Claim7 := { stood := { row := vmStepsRow, standIns := [], harness := (true, "6e176fc247e9fdbdc7ba483c1dc36679a22e3c8a518d6173976f84e5e9193147"), looks := true }, kinds := [], alts := [], laidByText := true, laidKinds := [.data, .data, .data], laidTests := true, laidLooks := .later }
def VmStepsCardSaid : Prop := Claim7.holds Tryz.pinned (.plain (OpenSpec.ofChange vmStepsSpec)) vmStepsCard

/-- THE TIED CARD OF 'clewlaw32.VmTells'. -/
def vmTellsCard : Claim7 := { stood := { row := vmTellsRow, standIns := [], harness := (true, "6e176fc247e9fdbdc7ba483c1dc36679a22e3c8a518d6173976f84e5e9193147"), looks := true }, kinds := [], alts := [], laidByText := true, laidKinds := [.data, .data, .data], laidTests := true, laidLooks := .later }
def VmTellsCardSaid : Prop := Claim7.holds Tryz.pinned (.plain (OpenSpec.ofChange vmTellsSpec)) vmTellsCard

/-- THE TIED CARD OF 'clewlaw32.VmKeeps'. -/
def vmKeepsCard : Claim7 := { stood := { row := vmKeepsRow, standIns := [], harness := (true, "6e176fc247e9fdbdc7ba483c1dc36679a22e3c8a518d6173976f84e5e9193147"), looks := true }, kinds := [], alts := [], laidByText := true, laidKinds := [.data, .data, .data], laidTests := true, laidLooks := .later }
def VmKeepsCardSaid : Prop := Claim7.holds Tryz.pinned (.plain (OpenSpec.ofChange vmKeepsSpec)) vmKeepsCard

/-- THE SECOND FORM's CARD OF 'clewlaw26.ExecEach'. -/
def execEachUptoCard : Claim7 := { stood := { row := execEachUptoRow, standIns := [], harness := (true, "6e176fc247e9fdbdc7ba483c1dc36679a22e3c8a518d6173976f84e5e9193147"), looks := true }, kinds := [], alts := [], laidByText := true, laidKinds := [.data, .data, .data], laidTests := true, laidLooks := .later }
def ExecEachUptoCardSaid : Prop := Claim7.holds Tryz.pinned (.plain (OpenSpec.upto execEachSpec)) execEachUptoCard

/-- THE SECOND FORM's CARD OF 'clewlaw32.VmBegins'. -/
def vmBeginsUptoCard : Claim7 := { stood := { row := vmBeginsUptoRow, standIns := [], harness := (true, "6e176fc247e9fdbdc7ba483c1dc36679a22e3c8a518d6173976f84e5e9193147"), looks := true }, kinds := [], alts := [], laidByText := true, laidKinds := [.data, .data, .data], laidTests := true, laidLooks := .later }
def VmBeginsUptoCardSaid : Prop := Claim7.holds Tryz.pinned (.plain (OpenSpec.upto vmBeginsSpec)) vmBeginsUptoCard

/-- THE SECOND FORM's CARD OF 'clewlaw32.VmSteps'. -/
def vmStepsUptoCard : Claim7 := { stood := { row := vmStepsUptoRow, standIns := [], harness := (true, "6e176fc247e9fdbdc7ba483c1dc36679a22e3c8a518d6173976f84e5e9193147"), looks := true }, kinds := [], alts := [], laidByText := true, laidKinds := [.data, .data, .data], laidTests := true, laidLooks := .later }
def VmStepsUptoCardSaid : Prop := Claim7.holds Tryz.pinned (.plain (OpenSpec.upto vmStepsSpec)) vmStepsUptoCard

/-- THE SECOND FORM's CARD OF 'clewlaw32.VmTells'. -/
def vmTellsUptoCard : Claim7 := { stood := { row := vmTellsUptoRow, standIns := [], harness := (true, "6e176fc247e9fdbdc7ba483c1dc36679a22e3c8a518d6173976f84e5e9193147"), looks := true }, kinds := [], alts := [], laidByText := true, laidKinds := [.data, .data, .data], laidTests := true, laidLooks := .later }
def VmTellsUptoCardSaid : Prop := Claim7.holds Tryz.pinned (.plain (OpenSpec.upto vmTellsSpec)) vmTellsUptoCard

/-- THE SECOND FORM's CARD OF 'clewlaw32.VmKeeps'. -/
def vmKeepsUptoCard : Claim7 := { stood := { row := vmKeepsUptoRow, standIns := [], harness := (true, "6e176fc247e9fdbdc7ba483c1dc36679a22e3c8a518d6173976f84e5e9193147"), looks := true }, kinds := [], alts := [], laidByText := true, laidKinds := [.data, .data, .data], laidTests := true, laidLooks := .later }
def VmKeepsUptoCardSaid : Prop := Claim7.holds Tryz.pinned (.plain (OpenSpec.upto vmKeepsSpec)) vmKeepsUptoCard
end Rows
end Go.Proofs.YtnajleligcjlkaaGreatDoor
