/-
  DERIVED. GIVEN WITH THE SEED: THE CARDS: each row of YtcifiibpiooeiaaGreatDoorRows.lean that lists a variable, with what it lists TIED to the program's text (the seventh form; the later family's looks); each row that meets fmt, with fmt's text TOLD by the authors' own Lean function (tested against real Go, not proved from fmt's source: count such statements apart). THE CARD IS WHAT COUNTS. Prove the row's statement (the work); the ties are given (YtcifiibpiooeiaaGreatDoorTie.lean); close each card by the builder's one call (the guide's Derived/Test/ToyasCard.lean, 'card_holds'). Laid BY PROGRAM, IN A SANDBOX (cutbox-door.mjs). By AI agents, Wed Nov 11 2026. No macro, syntax, notation, axiom, sorry.
-/
import Derived.Test.YtcifiibpiooeiaaGreatDoorRows
import GoSem.ClaimSeven
namespace Go.Proofs.YtcifiibpiooeiaaGreatDoor
namespace Rows

/-- THE TIED CARD OF 'sluicegatelaw03.CnfTexts'. -/
def cnfTextsCard : Claim7 := { stood := { row := cnfTextsRow, standIns := [], harness := (true, "c0aaa3e11f70390c6bfccdaae4ec9bf68438c4502a9d88745f07ea2bd9c0a85a"), looks := true }, kinds := [], alts := [], laidByText := true, laidKinds := [.data, .data, .data, .data, .sentinel, .sentinel, .pinned], laidTests := true, laidLooks := .later }
def CnfTextsCardSaid : Prop := Claim7.holds Tryz.pinned (.plain (OpenSpec.ofChange cnfTextsSpec)) cnfTextsCard

/-- THE TIED CARD OF 'sluicegatetop.SluiceSolves'. -/
def sluiceSolvesCard : Claim7 := { stood := { row := sluiceSolvesRow, standIns := [], harness := (true, "c0aaa3e11f70390c6bfccdaae4ec9bf68438c4502a9d88745f07ea2bd9c0a85a"), looks := true }, kinds := [], alts := [], laidByText := true, laidKinds := [.data, .data, .data, .data, .sentinel, .sentinel, .pinned], laidTests := true, laidLooks := .later }
def SluiceSolvesCardSaid : Prop := Claim7.holds Tryz.pinned (.plain (OpenSpec.ofChange sluiceSolvesSpec)) sluiceSolvesCard

/-- THE SECOND FORM's CARD OF 'sluicegatelaw03.CnfTexts'. -/
def cnfTextsUptoCard : Claim7 := { stood := { row := cnfTextsUptoRow, standIns := [], harness := (true, "c0aaa3e11f70390c6bfccdaae4ec9bf68438c4502a9d88745f07ea2bd9c0a85a"), looks := true }, kinds := [], alts := [], laidByText := true, laidKinds := [.data, .data, .data, .data, .sentinel, .sentinel, .pinned], laidTests := true, laidLooks := .later }
def CnfTextsUptoCardSaid : Prop := Claim7.holds Tryz.pinned (.plain (OpenSpec.upto cnfTextsSpec)) cnfTextsUptoCard

/-- THE SECOND FORM's CARD OF 'sluicegatetop.SluiceSolves'. -/
def sluiceSolvesUptoCard : Claim7 := { stood := { row := sluiceSolvesUptoRow, standIns := [], harness := (true, "c0aaa3e11f70390c6bfccdaae4ec9bf68438c4502a9d88745f07ea2bd9c0a85a"), looks := true }, kinds := [], alts := [], laidByText := true, laidKinds := [.data, .data, .data, .data, .sentinel, .sentinel, .pinned], laidTests := true, laidLooks := .later }
def SluiceSolvesUptoCardSaid : Prop := Claim7.holds Tryz.pinned (.plain (OpenSpec.upto sluiceSolvesSpec)) sluiceSolvesUptoCard
end Rows
end Go.Proofs.YtcifiibpiooeiaaGreatDoor
