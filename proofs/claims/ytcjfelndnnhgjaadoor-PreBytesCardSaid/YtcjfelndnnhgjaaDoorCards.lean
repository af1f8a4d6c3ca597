/-
  DERIVED. GIVEN WITH THE SEED: THE CARDS: each row of YtcjfelndnnhgjaaDoorRows.lean that lists a variable, with what it lists TIED to the program's text (the seventh form; the later family's looks); each row that meets fmt, with fmt's text TOLD by the authors' own Lean function (tested against real Go, not proved from fmt's source: count such statements apart). THE CARD IS WHAT COUNTS. Prove the row's statement (the work); the ties are given (YtcjfelndnnhgjaaDoorTie.lean); close each card by the builder's one call (the guide's Derived/Test/ToyasCard.lean, 'card_holds'). Laid BY PROGRAM, IN A SANDBOX (cutbox-door.mjs). By AI agents, Wed Nov 11 2026. No macro, syntax, notation, axiom, sorry.
-/
import Derived.Test.YtcjfelndnnhgjaaDoorRows
import GoSem.ClaimSeven
namespace Go.Proofs.YtcjfelndnnhgjaaDoor
namespace Rows

/-- THE TIED CARD OF 'sluicegatelaw07.PreBytes'. -/
def preBytesCard : Claim7 := { stood := { row := preBytesRow, standIns := [], harness := (true, "be08733398beec387602b5c5805707dee62f13601e69cdd79751c63741706d86"), looks := false }, kinds := [], alts := [], laidByText := true, laidKinds := [.data, .pinned], laidTests := true, laidLooks := .later }
def PreBytesCardSaid : Prop := Claim7.holds Tryd.pinned (.plain (OpenSpec.ofChange preBytesSpec)) preBytesCard

/-- THE SECOND FORM's CARD OF 'sluicegatelaw07.PreBytes'. -/
def preBytesUptoCard : Claim7 := { stood := { row := preBytesUptoRow, standIns := [], harness := (true, "be08733398beec387602b5c5805707dee62f13601e69cdd79751c63741706d86"), looks := false }, kinds := [], alts := [], laidByText := true, laidKinds := [.data, .pinned], laidTests := true, laidLooks := .later }
def PreBytesUptoCardSaid : Prop := Claim7.holds Tryd.pinned (.plain (OpenSpec.upto preBytesSpec)) preBytesUptoCard
end Rows
end Go.Proofs.YtcjfelndnnhgjaaDoor
