/-
  DERIVED. GIVEN WITH THE SEED: THE CARDS: each row of YtcifiibpiooeiaaDoorRows.lean that lists a variable, with what it lists TIED to the program's text (the seventh form; the later family's looks); each row that meets fmt, with fmt's text TOLD by the authors' own Lean function (tested against real Go, not proved from fmt's source: count such statements apart). THE CARD IS WHAT COUNTS. Prove the row's statement (the work); the ties are given (YtcifiibpiooeiaaDoorTie.lean); close each card by the builder's one call (the guide's Derived/Test/ToyasCard.lean, 'card_holds'). Laid BY PROGRAM, IN A SANDBOX (cutbox-door.mjs). By AI agents, Wed Nov 11 2026. No macro, syntax, notation, axiom, sorry.
-/
import Derived.Test.YtcifiibpiooeiaaDoorRows
import GoSem.ClaimSeven
namespace Go.Proofs.YtcifiibpiooeiaaDoor
namespace Rows

/-- THE TIED CARD OF 'sluicegatelaw03.CnfOrder'. -/
def cnfOrderCard : Claim7 := { stood := { row := cnfOrderRow, standIns := [], harness := (true, "59629320e166fb2609edebe2758563e10386ccfd05f3750971c564e67cc690e1"), looks := false }, kinds := [], alts := [], laidByText := true, laidKinds := [.data, .data, .data], laidTests := true, laidLooks := .later }
def CnfOrderCardSaid : Prop := Claim7.holds Tryd.pinned (.plain (OpenSpec.ofChange cnfOrderSpec)) cnfOrderCard

/-- THE TIED CARD OF 'sluicegatelaw03.CnfLimits'. -/
def cnfLimitsCard : Claim7 := { stood := { row := cnfLimitsRow, standIns := [], harness := (true, "59629320e166fb2609edebe2758563e10386ccfd05f3750971c564e67cc690e1"), looks := false }, kinds := [], alts := [], laidByText := true, laidKinds := [.data, .data, .data], laidTests := true, laidLooks := .later }
def CnfLimitsCardSaid : Prop := Claim7.holds Tryd.pinned (.plain (OpenSpec.ofChange cnfLimitsSpec)) cnfLimitsCard

/-- THE TIED CARD OF 'sluicegatelaw03.CnfHolds'. -/
def cnfHoldsCard : Claim7 := { stood := { row := cnfHoldsRow, standIns := [], harness := (true, "59629320e166fb2609edebe2758563e10386ccfd05f3750971c564e67cc690e1"), looks := false }, kinds := [], alts := [], laidByText := true, laidKinds := [.data, .data, .data], laidTests := true, laidLooks := .later }
def CnfHoldsCardSaid : Prop := Claim7.holds Tryd.pinned (.plain (OpenSpec.ofChange cnfHoldsSpec)) cnfHoldsCard

/-- THE TIED CARD OF 'sluicegatelaw03.CnfAdds'. -/
def cnfAddsCard : Claim7 := { stood := { row := cnfAddsRow, standIns := [], harness := (true, "59629320e166fb2609edebe2758563e10386ccfd05f3750971c564e67cc690e1"), looks := false }, kinds := [], alts := [], laidByText := true, laidKinds := [.data, .data, .data], laidTests := true, laidLooks := .later }
def CnfAddsCardSaid : Prop := Claim7.holds Tryd.pinned (.plain (OpenSpec.ofChange cnfAddsSpec)) cnfAddsCard

/-- THE SECOND FORM's CARD OF 'sluicegatelaw03.CnfOrder'. -/
def cnfOrderUptoCard : Claim7 := { stood := { row := cnfOrderUptoRow, standIns := [], harness := (true, "59629320e166fb2609edebe2758563e10386ccfd05f3750971c564e67cc690e1"), looks := false }, kinds := [], alts := [], laidByText := true, laidKinds := [.data, .data, .data], laidTests := true, laidLooks := .later }
def CnfOrderUptoCardSaid : Prop := Claim7.holds Tryd.pinned (.plain (OpenSpec.upto cnfOrderSpec)) cnfOrderUptoCard

/-- THE SECOND FORM's CARD OF 'sluicegatelaw03.CnfLimits'. -/
def cnfLimitsUptoCard : Claim7 := { stood := { row := cnfLimitsUptoRow, standIns := [], harness := (true, "59629320e166fb2609edebe2758563e10386ccfd05f3750971c564e67cc690e1"), looks := false }, kinds := [], alts := [], laidByText := true, laidKinds := [.data, .data, .data], laidTests := true, laidLooks := .later }
def CnfLimitsUptoCardSaid : Prop := Claim7.holds Tryd.pinned (.plain (OpenSpec.upto cnfLimitsSpec)) cnfLimitsUptoCard

/-- THE SECOND FORM's CARD OF 'sluicegatelaw03.CnfHolds'. -/
def cnfHoldsUptoCard : Claim7 := { stood := { row := cnfHoldsUptoRow, standIns := [], harness := (true, "59629320e166fb2609edebe2758563e10386ccfd05f3750971c564e67cc690e1"), looks := false }, kinds := [], alts := [], laidByText := true, laidKinds := [.data, .data, .data], laidTests := true, laidLooks := .later }
def CnfHoldsUptoCardSaid : Prop := Claim7.holds Tryd.pinned (.plain (OpenSpec.upto cnfHoldsSpec)) cnfHoldsUptoCard

/-- THE SECOND FORM's CARD OF 'sluicegatelaw03.CnfAdds'. -/
def cnfAddsUptoCard : Claim7 := { stood := { row := cnfAddsUptoRow, standIns := [], harness := (true, "59629320e166fb2609edebe2758563e10386ccfd05f3750971c564e67cc690e1"), looks := false }, kinds := [], alts := [], laidByText := true, laidKinds := [.data, .data, .data], laidTests := true, laidLooks := .later }
def CnfAddsUptoCardSaid : Prop := Claim7.holds Tryd.pinned (.plain (OpenSpec.upto cnfAddsSpec)) cnfAddsUptoCard
end Rows
end Go.Proofs.YtcifiibpiooeiaaDoor
