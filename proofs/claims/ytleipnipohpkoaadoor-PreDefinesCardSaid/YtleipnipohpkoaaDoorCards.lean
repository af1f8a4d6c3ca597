/-
  DERIVED. GIVEN WITH THE SEED: THE CARDS: each row of YtleipnipohpkoaaDoorRows.lean that lists a variable, with what it lists TIED to the program's text (the seventh form; the later family's looks); each row that meets fmt, with fmt's text TOLD by the authors' own Lean function (tested against real Go, not proved from fmt's source: count such statements apart). THE CARD IS WHAT COUNTS. Prove the row's statement (the work); the ties are given (YtleipnipohpkoaaDoorTie.lean); close each card by the builder's one call (the guide's Derived/Test/ToyasCard.lean, 'card_holds'). Laid BY PROGRAM, IN A SANDBOX (cutbox-door.mjs). By AI agents, Wed Nov 11 2026. No macro, syntax, notation, axiom, sorry.
-/
import Derived.Test.YtleipnipohpkoaaDoorRows
import GoSem.ClaimSeven
namespace Go.Proofs.YtleipnipohpkoaaDoor
namespace Rows

/-- THE TIED CARD OF 'sluicegatelaw07.PrePlain'. -/
def prePlainCard : Claim7 := { stood := { row := prePlainRow, standIns := [], harness := (true, "eee95ce5db703467920553e46bd6639bbf40ff93b33bc37041f67f6217bf665b"), looks := false }, kinds := [], alts := [], laidByText := true, laidKinds := [.data, .pinned], laidTests := true, laidLooks := .later }
def PrePlainCardSaid : Prop := Claim7.holds Tryd.pinned (.plain (OpenSpec.ofChange prePlainSpec)) prePlainCard

/-- THE TIED CARD OF 'sluicegatelaw07.PreDefines'. -/
def preDefinesCard : Claim7 := { stood := { row := preDefinesRow, standIns := [], harness := (true, "eee95ce5db703467920553e46bd6639bbf40ff93b33bc37041f67f6217bf665b"), looks := false }, kinds := [], alts := [], laidByText := true, laidKinds := [.data, .pinned], laidTests := true, laidLooks := .later }
def PreDefinesCardSaid : Prop := Claim7.holds Tryd.pinned (.plain (OpenSpec.ofChange preDefinesSpec)) preDefinesCard

/-- THE TIED CARD OF 'sluicegatelaw07.PreFiles'. -/
def preFilesCard : Claim7 := { stood := { row := preFilesRow, standIns := [], harness := (true, "eee95ce5db703467920553e46bd6639bbf40ff93b33bc37041f67f6217bf665b"), looks := false }, kinds := [], alts := [], laidByText := true, laidKinds := [.data, .pinned], laidTests := true, laidLooks := .later }
def PreFilesCardSaid : Prop := Claim7.holds Tryd.pinned (.plain (OpenSpec.ofChange preFilesSpec)) preFilesCard

/-- THE TIED CARD OF 'sluicegatelaw07.PreBytes'. -/
def preBytesCard : Claim7 := { stood := { row := preBytesRow, standIns := [], harness := (true, "eee95ce5db703467920553e46bd6639bbf40ff93b33bc37041f67f6217bf665b"), looks := false }, kinds := [], alts := [], laidByText := true, laidKinds := [.data, .pinned], laidTests := true, laidLooks := .later }
def PreBytesCardSaid : Prop := Claim7.holds Tryd.pinned (.plain (OpenSpec.ofChange preBytesSpec)) preBytesCard

/-- THE SECOND FORM's CARD OF 'sluicegatelaw07.PrePlain'. -/
def prePlainUptoCard : Claim7 := { stood := { row := prePlainUptoRow, standIns := [], harness := (true, "eee95ce5db703467920553e46bd6639bbf40ff93b33bc37041f67f6217bf665b"), looks := false }, kinds := [], alts := [], laidByText := true, laidKinds := [.data, .pinned], laidTests := true, laidLooks := .later }
def PrePlainUptoCardSaid : Prop := Claim7.holds Tryd.pinned (.plain (OpenSpec.upto prePlainSpec)) prePlainUptoCard

/-- THE SECOND FORM's CARD OF 'sluicegatelaw07.PreDefines'. -/
def preDefinesUptoCard : Claim7 := { stood := { row := preDefinesUptoRow, standIns := [], harness := (true, "eee95ce5db703467920553e46bd6639bbf40ff93b33bc37041f67f6217bf665b"), looks := false }, kinds := [], alts := [], laidByText := true, laidKinds := [.data, .pinned], laidTests := true, laidLooks := .later }
def PreDefinesUptoCardSaid : Prop := Claim7.holds Tryd.pinned (.plain (OpenSpec.upto preDefinesSpec)) preDefinesUptoCard

/-- THE SECOND FORM's CARD OF 'sluicegatelaw07.PreFiles'. -/
def preFilesUptoCard : Claim7 := { stood := { row := preFilesUptoRow, standIns := [], harness := (true, "eee95ce5db703467920553e46bd6639bbf40ff93b33bc37041f67f6217bf665b"), looks := false }, kinds := [], alts := [], laidByText := true, laidKinds := [.data, .pinned], laidTests := true, laidLooks := .later }
def PreFilesUptoCardSaid : Prop := Claim7.holds Tryd.pinned (.plain (OpenSpec.upto preFilesSpec)) preFilesUptoCard

/-- THE SECOND FORM's CARD OF 'sluicegatelaw07.PreBytes'. -/
def preBytesUptoCard : Claim7 := { stood := { row := preBytesUptoRow, standIns := [], harness := (true, "eee95ce5db703467920553e46bd6639bbf40ff93b33bc37041f67f6217bf665b"), looks := false }, kinds := [], alts := [], laidByText := true, laidKinds := [.data, .pinned], laidTests := true, laidLooks := .later }
def PreBytesUptoCardSaid : Prop := Claim7.holds Tryd.pinned (.plain (OpenSpec.upto preBytesSpec)) preBytesUptoCard
end Rows
end Go.Proofs.YtleipnipohpkoaaDoor
