/-
  DERIVED. GIVEN WITH THE SEED: THE CARDS: each row of YtcdjkbgedmehjaaGreatDoorRows.lean that lists a variable, with what it lists TIED to the program's text (the seventh form; the later family's looks); each row that meets fmt, with fmt's text TOLD by the authors' own Lean function (tested against real Go, not proved from fmt's source: count such statements apart). THE CARD IS WHAT COUNTS. Prove the row's statement (the work); the ties are given (YtcdjkbgedmehjaaGreatDoorTie.lean); close each card by the builder's one call (the guide's Derived/Test/ToyasCard.lean, 'card_holds'). Laid BY PROGRAM, IN A SANDBOX (cutbox-door.mjs). By AI agents, Wed Nov 11 2026. No macro, syntax, notation, axiom, sorry.
-/
import Derived.Test.YtcdjkbgedmehjaaGreatDoorRows
import GoSem.ClaimSeven
namespace Go.Proofs.YtcdjkbgedmehjaaGreatDoor
namespace Rows

/-- THE TIED CARD OF 'sluicegatelaw25.VcdWrites'. -/
def vcdWritesCard : Claim7 := { stood := { row := vcdWritesRow, standIns := [], harness := (true, "806e653d4bc5b7ddc527385724242b3543fd0308bda69042859ee68b7f8c4c99"), looks := false }, kinds := [], alts := [], laidByText := true, laidKinds := [.data, .data, .data, .data, .pinned], laidTests := true, laidLooks := .later }
def VcdWritesCardSaid : Prop := Claim7.holds Tryz.pinned (.plain (OpenSpec.ofChange vcdWritesSpec)) vcdWritesCard

/-- THE SECOND FORM's CARD OF 'sluicegatelaw25.VcdWrites'. -/
def vcdWritesUptoCard : Claim7 := { stood := { row := vcdWritesUptoRow, standIns := [], harness := (true, "806e653d4bc5b7ddc527385724242b3543fd0308bda69042859ee68b7f8c4c99"), looks := false }, kinds := [], alts := [], laidByText := true, laidKinds := [.data, .data, .data, .data, .pinned], laidTests := true, laidLooks := .later }
def VcdWritesUptoCardSaid : Prop := Claim7.holds Tryz.pinned (.plain (OpenSpec.upto vcdWritesSpec)) vcdWritesUptoCard
end Rows
end Go.Proofs.YtcdjkbgedmehjaaGreatDoor
