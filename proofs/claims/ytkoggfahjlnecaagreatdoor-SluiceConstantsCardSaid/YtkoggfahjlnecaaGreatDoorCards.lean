/-
  DERIVED. GIVEN WITH THE SEED: THE CARDS: each row of YtkoggfahjlnecaaGreatDoorRows.lean that lists a variable, with what it lists TIED to the program's text (the seventh form; the later family's looks); each row that meets fmt, with fmt's text TOLD by the authors' own Lean function (tested against real Go, not proved from fmt's source: count such statements apart). THE CARD IS WHAT COUNTS. Prove the row's statement (the work); the ties are given (YtkoggfahjlnecaaGreatDoorTie.lean); close each card by the builder's one call (the guide's Derived/Test/ToyasCard.lean, 'card_holds'). Laid BY PROGRAM, IN A SANDBOX (cutbox-door.mjs). By AI agents, Wed Nov 11 2026. No macro, syntax, notation, axiom, sorry.
-/
import Derived.Test.YtkoggfahjlnecaaGreatDoorRows
import GoSem.ClaimSeven
namespace Go.Proofs.YtkoggfahjlnecaaGreatDoor
namespace Rows

/-- THE TIED CARD OF 'sluicegatetop.SluiceConstants'. -/
def sluiceConstantsCard : Claim7 := { stood := { row := sluiceConstantsRow, standIns := [], harness := (true, "376476acefc42846f0f292d52c9cf6b778192c64bc1276fd88781d6f9b650bb3"), looks := false }, kinds := [], alts := [], laidByText := true, laidKinds := [.data, .data, .data], laidTests := true, laidLooks := .later }
def SluiceConstantsCardSaid : Prop := Claim7.holds Tryz.pinned (.plain (OpenSpec.ofChange sluiceConstantsSpec)) sluiceConstantsCard

/-- THE SECOND FORM's CARD OF 'sluicegatetop.SluiceConstants'. -/
def sluiceConstantsUptoCard : Claim7 := { stood := { row := sluiceConstantsUptoRow, standIns := [], harness := (true, "376476acefc42846f0f292d52c9cf6b778192c64bc1276fd88781d6f9b650bb3"), looks := false }, kinds := [], alts := [], laidByText := true, laidKinds := [.data, .data, .data], laidTests := true, laidLooks := .later }
def SluiceConstantsUptoCardSaid : Prop := Claim7.holds Tryz.pinned (.plain (OpenSpec.upto sluiceConstantsSpec)) sluiceConstantsUptoCard
end Rows
end Go.Proofs.YtkoggfahjlnecaaGreatDoor
