/-
  DERIVED. GIVEN WITH THE SEED: THE CARDS: each row of YtcjfelndnnhgjaaGreatDoorRows.lean that lists a variable, with what it lists TIED to the program's text (the seventh form; the later family's looks); each row that meets fmt, with fmt's text TOLD by the authors' own Lean function (tested against real Go, not proved from fmt's source: count such statements apart). THE CARD IS WHAT COUNTS. Prove the row's statement (the work); the ties are given (YtcjfelndnnhgjaaGreatDoorTie.lean); close each card by the builder's one call (the guide's Derived/Test/ToyasCard.lean, 'card_holds'). Laid BY PROGRAM, IN A SANDBOX (cutbox-door.mjs). By AI agents, Wed Nov 11 2026. No macro, syntax, notation, axiom, sorry.
-/
import Derived.Test.YtcjfelndnnhgjaaGreatDoorRows
import GoSem.ClaimSeven
namespace Go.Proofs.YtcjfelndnnhgjaaGreatDoor
namespace Rows

/-- THE TIED CARD OF 'sluicegatetop.SluiceWords'. -/
def sluiceWordsCard : Claim7 := { stood := { row := sluiceWordsRow, standIns := [], harness := (true, "d595dae2688d592c88d9fcc5d4dc641b2941fb2697a73aac7828b88e74d291dc"), looks := false }, kinds := [], alts := [], laidByText := true, laidKinds := [.data, .pinned], laidTests := true, laidLooks := .later }
def SluiceWordsCardSaid : Prop := Claim7.holds Tryz.pinned (.plain (OpenSpec.ofChange sluiceWordsSpec)) sluiceWordsCard

/-- THE SECOND FORM's CARD OF 'sluicegatetop.SluiceWords'. -/
def sluiceWordsUptoCard : Claim7 := { stood := { row := sluiceWordsUptoRow, standIns := [], harness := (true, "d595dae2688d592c88d9fcc5d4dc641b2941fb2697a73aac7828b88e74d291dc"), looks := false }, kinds := [], alts := [], laidByText := true, laidKinds := [.data, .pinned], laidTests := true, laidLooks := .later }
def SluiceWordsUptoCardSaid : Prop := Claim7.holds Tryz.pinned (.plain (OpenSpec.upto sluiceWordsSpec)) sluiceWordsUptoCard
end Rows
end Go.Proofs.YtcjfelndnnhgjaaGreatDoor
