/-
  DERIVED. GIVEN WITH THE SEED: THE CARDS: each row of YtfhakomhkmbmeaaDoorRows.lean that lists a variable, with what it lists TIED to the program's text (the seventh form; the later family's looks); each row that meets fmt, with fmt's text TOLD by the authors' own Lean function (tested against real Go, not proved from fmt's source: count such statements apart). THE CARD IS WHAT COUNTS. Prove the row's statement (the work); the ties are given (YtfhakomhkmbmeaaDoorTie.lean); close each card by the builder's one call (the guide's Derived/Test/ToyasCard.lean, 'card_holds'). Laid BY PROGRAM, IN A SANDBOX (cutbox-door.mjs). By AI agents, Wed Nov 11 2026. No macro, syntax, notation, axiom, sorry.
-/
import Derived.Test.YtfhakomhkmbmeaaDoorRows
import GoSem.ClaimSeven
namespace Go.Proofs.YtfhakomhkmbmeaaDoor
namespace Rows

/-- THE TIED CARD OF 'sluicegatetop.SluiceNumbers'. -/
def sluiceNumbersCard : Claim7 := { stood := { row := sluiceNumbersRow, standIns := [], harness := (true, "9c8ddc9671b923e6b0ac09751457fe2090049aabf776f9613f3bd1a192f9e545"), looks := false }, kinds := [], alts := [], laidByText := true, laidKinds := [.data, .data, .data], laidTests := true, laidLooks := .later }
def SluiceNumbersCardSaid : Prop := Claim7.holds Tryd.pinned (.plain (OpenSpec.ofChange sluiceNumbersSpec)) sluiceNumbersCard

/-- THE SECOND FORM's CARD OF 'sluicegatetop.SluiceNumbers'. -/
def sluiceNumbersUptoCard : Claim7 := { stood := { row := sluiceNumbersUptoRow, standIns := [], harness := (true, "9c8ddc9671b923e6b0ac09751457fe2090049aabf776f9613f3bd1a192f9e545"), looks := false }, kinds := [], alts := [], laidByText := true, laidKinds := [.data, .data, .data], laidTests := true, laidLooks := .later }
def SluiceNumbersUptoCardSaid : Prop := Claim7.holds Tryd.pinned (.plain (OpenSpec.upto sluiceNumbersSpec)) sluiceNumbersUptoCard
end Rows
end Go.Proofs.YtfhakomhkmbmeaaDoor
