/-
  DERIVED. GIVEN WITH THE SEED: THE CARDS: each row of YtmhnopomnpgcjaaGreatDoorRows.lean that lists a variable, with what it lists TIED to the program's text (the seventh form; the later family's looks); each row that meets fmt, with fmt's text TOLD by the authors' own Lean function (tested against real Go, not proved from fmt's source: count such statements apart). THE CARD IS WHAT COUNTS. Prove the row's statement (the work); the ties are given (YtmhnopomnpgcjaaGreatDoorTie.lean); close each card by the builder's one call (the guide's Derived/Test/ToyasCard.lean, 'card_holds'). Laid BY PROGRAM, IN A SANDBOX (cutbox-door.mjs). By AI agents, Wed Nov 11 2026. No macro, syntax, notation, axiom, sorry.
-/
import Derived.Test.YtmhnopomnpgcjaaGreatDoorRows
import GoSem.ClaimSeven
namespace Go.Proofs.YtmhnopomnpgcjaaGreatDoor
namespace Rows

/-- THE TIED CARD OF 'clewlaw32.VmSteps'. -/
def vmStepsCard : Claim7 := { stood := { row := vmStepsRow, standIns := [], harness := (true, "93446c1fb3a1b226f07a90fc52d135aad53f32bfed15bec8f459ac4cdeece178"), looks := true }, kinds := [], alts := [], laidByText := true, laidKinds := [.data, .data, .data], laidTests := true, laidLooks := .later }
def VmStepsCardSaid : Prop := Claim7.holds Tryz.pinned (.plain (OpenSpec.ofChange vmStepsSpec)) vmStepsCard

/-- THE TIED CARD OF 'clewlaw32.VmTells'. -/
def vmTellsCard : Claim7 := { stood := { row := vmTellsRow, standIns := [], harness := (true, "93446c1fb3a1b226f07a90fc52d135aad53f32bfed15bec8f459ac4cdeece178"), looks := true }, kinds := [], alts := [], laidByText := true, laidKinds := [.data, .data, .data], laidTests := true, laidLooks := .later }
def VmTellsCardSaid : Prop := Claim7.holds Tryz.pinned (.plain (OpenSpec.ofChange vmTellsSpec)) vmTellsCard

/-- THE TIED CARD OF 'clewlaw32.VmKeeps'. -/
def vmKeepsCard : Claim7 := { stood := { row := vmKeepsRow, standIns := [], harness := (true, "93446c1fb3a1b226f07a90fc52d135aad53f32bfed15bec8f459ac4cdeece178"), looks := true }, kinds := [], alts := [], laidByText := true, laidKinds := [.data, .data, .data], laidTests := true, laidLooks := .later }
def VmKeepsCardSaid : Prop := Claim7.holds Tryz.pinned (.plain (OpenSpec.ofChange vmKeepsSpec)) vmKeepsCard

/-- THE TIED CARD OF 'clewlaw33.RunTraces'. -/
def runTracesCard : Claim7 := { stood := { row := runTracesRow, standIns := [], harness := (true, "93446c1fb3a1b226f07a90fc52d135aad53f32bfed15bec8f459ac4cdeece178"), looks := true }, kinds := [], alts := [], laidByText := true, laidKinds := [.data, .data, .data], laidTests := true, laidLooks := .later }
def RunTracesCardSaid : Prop := Claim7.holds Tryz.pinned (.plain (OpenSpec.ofChange runTracesSpec)) runTracesCard

/-- THE TIED CARD OF 'clewlaw33.RunSteps'. -/
def runStepsCard : Claim7 := { stood := { row := runStepsRow, standIns := [], harness := (true, "93446c1fb3a1b226f07a90fc52d135aad53f32bfed15bec8f459ac4cdeece178"), looks := true }, kinds := [], alts := [], laidByText := true, laidKinds := [.data, .data, .data], laidTests := true, laidLooks := .later }
def RunStepsCardSaid : Prop := Claim7.holds Tryz.pinned (.plain (OpenSpec.ofChange runStepsSpec)) runStepsCard

/-- THE TIED CARD OF 'clewlaw33.RunFuel'. -/
def runFuelCard : Claim7 := { stood := { row := runFuelRow, standIns := [], harness := (true, "93446c1fb3a1b226f07a90fc52d135aad53f32bfed15bec8f459ac4cdeece178"), looks := true }, kinds := [], alts := [], laidByText := true, laidKinds := [.data, .data, .data], laidTests := true, laidLooks := .later }
def RunFuelCardSaid : Prop := Claim7.holds Tryz.pinned (.plain (OpenSpec.ofChange runFuelSpec)) runFuelCard

/-- THE SECOND FORM's CARD OF 'clewlaw32.VmSteps'. -/
def vmStepsUptoCard : Claim7 := { stood := { row := vmStepsUptoRow, standIns := [], harness := (true, "93446c1fb3a1b226f07a90fc52d135aad53f32bfed15bec8f459ac4cdeece178"), looks := true }, kinds := [], alts := [], laidByText := true, laidKinds := [.data, .data, .data], laidTests := true, laidLooks := .later }
def VmStepsUptoCardSaid : Prop := Claim7.holds Tryz.pinned (.plain (OpenSpec.upto vmStepsSpec)) vmStepsUptoCard

/-- THE SECOND FORM's CARD OF 'clewlaw32.VmTells'. -/
def vmTellsUptoCard : Claim7 := { stood := { row := vmTellsUptoRow, standIns := [], harness := (true, "93446c1fb3a1b226f07a90fc52d135aad53f32bfed15bec8f459ac4cdeece178"), looks := true }, kinds := [], alts := [], laidByText := true, laidKinds := [.data, .data, .data], laidTests := true, laidLooks := .later }
def VmTellsUptoCardSaid : Prop := Claim7.holds Tryz.pinned (.plain (OpenSpec.upto vmTellsSpec)) vmTellsUptoCard

/-- THE SECOND FORM's CARD OF 'clewlaw32.VmKeeps'. -/
def vmKeepsUptoCard : Claim7 := { stood := { row := vmKeepsUptoRow, standIns := [], harness := (true, "93446c1fb3a1b226f07a90fc52d135aad53f32bfed15bec8f459ac4cdeece178"), looks := true }, kinds := [], alts := [], laidByText := true, laidKinds := [.data, .data, .data], laidTests := true, laidLooks := .later }
def VmKeepsUptoCardSaid : Prop := Claim7.holds Tryz.pinned (.plain (OpenSpec.upto vmKeepsSpec)) vmKeepsUptoCard

/-- THE SECOND FORM's CARD OF 'clewlaw33.RunTraces'. -/
def runTracesUptoCard : Claim7 := { stood := { row := runTracesUptoRow, standIns := [], harness := (true, "93446c1fb3a1b226f07a90fc52d135aad53f32bfed15bec8f459ac4cdeece178"), looks := true }, kinds := [], alts := [], laidByText := true, laidKinds := [.data, .data, .data], laidTests := true, laidLooks := .later }
def RunTracesUptoCardSaid : Prop := Claim7.holds Tryz.pinned (.plain (OpenSpec.upto runTracesSpec)) runTracesUptoCard

/-- THE SECOND FORM's CARD OF 'clewlaw33.RunSteps'. -/
def runStepsUptoCard : Claim7 := { stood := { row := runStepsUptoRow, standIns := [], harness := (true, "93446c1fb3a1b226f07a90fc52d135aad53f32bfed15bec8f459ac4cdeece178"), looks := true }, kinds := [], alts := [], laidByText := true, laidKinds := [.data, .data, .data], laidTests := true, laidLooks := .later }
def RunStepsUptoCardSaid : Prop := Claim7.holds Tryz.pinned (.plain (OpenSpec.upto runStepsSpec)) runStepsUptoCard

/-- THE SECOND FORM's CARD OF 'clewlaw33.RunFuel'. -/
def runFuelUptoCard : Claim7 := { stood := { row := runFuelUptoRow, standIns := [], harness := (true, "93446c1fb3a1b226f07a90fc52d135aad53f32bfed15bec8f459ac4cdeece178"), looks := true }, kinds := [], alts := [], laidByText := true, laidKinds := [.data, .data, .data], laidTests := true, laidLooks := .later }
def RunFuelUptoCardSaid : Prop := Claim7.holds Tryz.pinned (.plain (OpenSpec.upto runFuelSpec)) runFuelUptoCard
end Rows
end Go.Proofs.YtmhnopomnpgcjaaGreatDoor
