/-
  No cell of these rows narrows 'for every input' (looked for: loops, veiled, ifaces, maps, wideKeys, modest, calm, conditions, laid).
  DERIVED. THE GIVEN ROWS OF THIS SEAT. 10 by the template 'for every input the law returns true; each argument reads behind the call as it read before'; 0 by the template 'total and deterministic' (their statements: YtmimafbedbohiaaTotals.lean).
  GIVEN WITH THE SEED: the statements are not yours to turn. If you find one false, say at which input.
  Laid BY PROGRAM, IN A SANDBOX (cutbox-rows.mjs): the forced cells as the released guide's own fill.sh prints them over the translation fa34e4bfaef32646… (all of the seat's roots in one cut). By AI agents, Wed Nov 11 2026. No macro, syntax, notation, axiom, sorry.
-/
import Derived.Test.YtmimafbedbohiaaChecked
import GoSem.Claim
import GoSem.ClaimJoined
import GoSem.ClaimMapViews
import Derived.JoinedTies
import Derived.KernelRfl
namespace Go.Proofs.Ytmimafbedbohiaa
/- THE CELL 'sum', in the pinned program and in every row, IS THE sha256 OF THE DUMP (.gsa) THAT YtmimafbedbohiaaProg.lean LOADS. Nothing in Lean hashes anything: it is a label: what it is worth is what the hold of that sum in a sandbox is worth. -/
noncomputable def Try.pinned : Pinned := { name := "ytmimafbedbohiaa", sum := "fa34e4bfaef3264649ebdfc270f19f4d2fdb4c11d81065d8b59c7f7446825092", checked := Try.checked }
namespace Rows
def none {H : Type} : Left H := { results := [], args := [] }

/-- 'sluicegatelaw01.BvNumbers': WHATEVER THE INPUT: true; the input reads as it did. -/
def bvNumbersSpec : ChangeSpec := { name := "bvNumbers", fn := fun _ => fun
  | [d1, d2, d3] => { results := [.lit (.bool true)], args := [d1, d2, d3] }
  | _ => none }
def bvNumbersRow : OpenClaim := { program := "ytmimafbedbohiaa", sum := "fa34e4bfaef3264649ebdfc270f19f4d2fdb4c11d81065d8b59c7f7446825092", func := "sluicegate/sluicegatelaw01.BvNumbers", spec := "bvNumbers", inPlace := ["math/bits.Add64"], unfollowed := true, recurses := true, apart := false }
def BvNumbersSaid : Prop := bvNumbersRow.holds Try.pinned (OpenSpec.ofChange bvNumbersSpec)

/-- ITS FALSE NEIGHBOUR: 'it returns false'. Refute it at one input. -/
def bvNumbersWrong : ChangeSpec := { name := "bvNumbers", fn := fun _ => fun
  | [d1, d2, d3] => { results := [.lit (.bool false)], args := [d1, d2, d3] }
  | _ => none }
def BvNumbersWrongFalsely : Prop := bvNumbersRow.holds Try.pinned (OpenSpec.ofChange bvNumbersWrong)

/-- 'sluicegatelaw01.BvMakes': WHATEVER THE INPUT: true; the input reads as it did. -/
def bvMakesSpec : ChangeSpec := { name := "bvMakes", fn := fun _ => fun
  | [d1, d2, d3] => { results := [.lit (.bool true)], args := [d1, d2, d3] }
  | _ => none }
def bvMakesRow : OpenClaim := { program := "ytmimafbedbohiaa", sum := "fa34e4bfaef3264649ebdfc270f19f4d2fdb4c11d81065d8b59c7f7446825092", func := "sluicegate/sluicegatelaw01.BvMakes", spec := "bvMakes", inPlace := ["math/bits.Add64"], unfollowed := true, recurses := true, apart := false }
def BvMakesSaid : Prop := bvMakesRow.holds Try.pinned (OpenSpec.ofChange bvMakesSpec)

/-- ITS FALSE NEIGHBOUR: 'it returns false'. Refute it at one input. -/
def bvMakesWrong : ChangeSpec := { name := "bvMakes", fn := fun _ => fun
  | [d1, d2, d3] => { results := [.lit (.bool false)], args := [d1, d2, d3] }
  | _ => none }
def BvMakesWrongFalsely : Prop := bvMakesRow.holds Try.pinned (OpenSpec.ofChange bvMakesWrong)

/-- 'sluicegatelaw01.BvBins': WHATEVER THE INPUT: true; the input reads as it did. -/
def bvBinsSpec : ChangeSpec := { name := "bvBins", fn := fun _ => fun
  | [d1, d2] => { results := [.lit (.bool true)], args := [d1, d2] }
  | _ => none }
def bvBinsRow : OpenClaim := { program := "ytmimafbedbohiaa", sum := "fa34e4bfaef3264649ebdfc270f19f4d2fdb4c11d81065d8b59c7f7446825092", func := "sluicegate/sluicegatelaw01.BvBins", spec := "bvBins", inPlace := ["math/bits.Add64"], unfollowed := true, recurses := true, apart := false }
def BvBinsSaid : Prop := bvBinsRow.holds Try.pinned (OpenSpec.ofChange bvBinsSpec)

/-- ITS FALSE NEIGHBOUR: 'it returns false'. Refute it at one input. -/
def bvBinsWrong : ChangeSpec := { name := "bvBins", fn := fun _ => fun
  | [d1, d2] => { results := [.lit (.bool false)], args := [d1, d2] }
  | _ => none }
def BvBinsWrongFalsely : Prop := bvBinsRow.holds Try.pinned (OpenSpec.ofChange bvBinsWrong)

/-- 'sluicegatelaw01.BvOrders': WHATEVER THE INPUT: true; the input reads as it did. -/
def bvOrdersSpec : ChangeSpec := { name := "bvOrders", fn := fun _ => fun
  | [d1, d2] => { results := [.lit (.bool true)], args := [d1, d2] }
  | _ => none }
def bvOrdersRow : OpenClaim := { program := "ytmimafbedbohiaa", sum := "fa34e4bfaef3264649ebdfc270f19f4d2fdb4c11d81065d8b59c7f7446825092", func := "sluicegate/sluicegatelaw01.BvOrders", spec := "bvOrders", inPlace := ["math/bits.Add64"], unfollowed := true, recurses := true, apart := false }
def BvOrdersSaid : Prop := bvOrdersRow.holds Try.pinned (OpenSpec.ofChange bvOrdersSpec)

/-- ITS FALSE NEIGHBOUR: 'it returns false'. Refute it at one input. -/
def bvOrdersWrong : ChangeSpec := { name := "bvOrders", fn := fun _ => fun
  | [d1, d2] => { results := [.lit (.bool false)], args := [d1, d2] }
  | _ => none }
def BvOrdersWrongFalsely : Prop := bvOrdersRow.holds Try.pinned (OpenSpec.ofChange bvOrdersWrong)

/-- 'sluicegatelaw01.BvRing': WHATEVER THE INPUT: true; the input reads as it did. -/
def bvRingSpec : ChangeSpec := { name := "bvRing", fn := fun _ => fun
  | [d1, d2, d3] => { results := [.lit (.bool true)], args := [d1, d2, d3] }
  | _ => none }
def bvRingRow : OpenClaim := { program := "ytmimafbedbohiaa", sum := "fa34e4bfaef3264649ebdfc270f19f4d2fdb4c11d81065d8b59c7f7446825092", func := "sluicegate/sluicegatelaw01.BvRing", spec := "bvRing", inPlace := ["math/bits.Add64"], unfollowed := true, recurses := true, apart := false }
def BvRingSaid : Prop := bvRingRow.holds Try.pinned (OpenSpec.ofChange bvRingSpec)

/-- ITS FALSE NEIGHBOUR: 'it returns false'. Refute it at one input. -/
def bvRingWrong : ChangeSpec := { name := "bvRing", fn := fun _ => fun
  | [d1, d2, d3] => { results := [.lit (.bool false)], args := [d1, d2, d3] }
  | _ => none }
def BvRingWrongFalsely : Prop := bvRingRow.holds Try.pinned (OpenSpec.ofChange bvRingWrong)

/-- 'sluicegatelaw01.BvDivides': WHATEVER THE INPUT: true; the input reads as it did. -/
def bvDividesSpec : ChangeSpec := { name := "bvDivides", fn := fun _ => fun
  | [d1, d2] => { results := [.lit (.bool true)], args := [d1, d2] }
  | _ => none }
def bvDividesRow : OpenClaim := { program := "ytmimafbedbohiaa", sum := "fa34e4bfaef3264649ebdfc270f19f4d2fdb4c11d81065d8b59c7f7446825092", func := "sluicegate/sluicegatelaw01.BvDivides", spec := "bvDivides", inPlace := ["math/bits.Add64"], unfollowed := true, recurses := true, apart := false }
def BvDividesSaid : Prop := bvDividesRow.holds Try.pinned (OpenSpec.ofChange bvDividesSpec)

/-- ITS FALSE NEIGHBOUR: 'it returns false'. Refute it at one input. -/
def bvDividesWrong : ChangeSpec := { name := "bvDivides", fn := fun _ => fun
  | [d1, d2] => { results := [.lit (.bool false)], args := [d1, d2] }
  | _ => none }
def BvDividesWrongFalsely : Prop := bvDividesRow.holds Try.pinned (OpenSpec.ofChange bvDividesWrong)

/-- 'sluicegatelaw01.BvSplits': WHATEVER THE INPUT: true; the input reads as it did. -/
def bvSplitsSpec : ChangeSpec := { name := "bvSplits", fn := fun _ => fun
  | [d1, d2] => { results := [.lit (.bool true)], args := [d1, d2] }
  | _ => none }
def bvSplitsRow : OpenClaim := { program := "ytmimafbedbohiaa", sum := "fa34e4bfaef3264649ebdfc270f19f4d2fdb4c11d81065d8b59c7f7446825092", func := "sluicegate/sluicegatelaw01.BvSplits", spec := "bvSplits", inPlace := ["math/bits.Add64"], unfollowed := true, recurses := true, apart := false }
def BvSplitsSaid : Prop := bvSplitsRow.holds Try.pinned (OpenSpec.ofChange bvSplitsSpec)

/-- ITS FALSE NEIGHBOUR: 'it returns false'. Refute it at one input. -/
def bvSplitsWrong : ChangeSpec := { name := "bvSplits", fn := fun _ => fun
  | [d1, d2] => { results := [.lit (.bool false)], args := [d1, d2] }
  | _ => none }
def BvSplitsWrongFalsely : Prop := bvSplitsRow.holds Try.pinned (OpenSpec.ofChange bvSplitsWrong)

/-- 'sluicegatelaw01.BvParts': WHATEVER THE INPUT: true; the input reads as it did. -/
def bvPartsSpec : ChangeSpec := { name := "bvParts", fn := fun _ => fun
  | [d1, d2, d3] => { results := [.lit (.bool true)], args := [d1, d2, d3] }
  | _ => none }
def bvPartsRow : OpenClaim := { program := "ytmimafbedbohiaa", sum := "fa34e4bfaef3264649ebdfc270f19f4d2fdb4c11d81065d8b59c7f7446825092", func := "sluicegate/sluicegatelaw01.BvParts", spec := "bvParts", inPlace := ["math/bits.Add64"], unfollowed := true, recurses := true, apart := false }
def BvPartsSaid : Prop := bvPartsRow.holds Try.pinned (OpenSpec.ofChange bvPartsSpec)

/-- ITS FALSE NEIGHBOUR: 'it returns false'. Refute it at one input. -/
def bvPartsWrong : ChangeSpec := { name := "bvParts", fn := fun _ => fun
  | [d1, d2, d3] => { results := [.lit (.bool false)], args := [d1, d2, d3] }
  | _ => none }
def BvPartsWrongFalsely : Prop := bvPartsRow.holds Try.pinned (OpenSpec.ofChange bvPartsWrong)

/-- 'sluicegatelaw01.BvUns': WHATEVER THE INPUT: true; the input reads as it did. -/
def bvUnsSpec : ChangeSpec := { name := "bvUns", fn := fun _ => fun
  | [d] => { results := [.lit (.bool true)], args := [d] }
  | _ => none }
def bvUnsRow : OpenClaim := { program := "ytmimafbedbohiaa", sum := "fa34e4bfaef3264649ebdfc270f19f4d2fdb4c11d81065d8b59c7f7446825092", func := "sluicegate/sluicegatelaw01.BvUns", spec := "bvUns", inPlace := ["math/bits.Add64"], unfollowed := true, recurses := true, apart := false }
def BvUnsSaid : Prop := bvUnsRow.holds Try.pinned (OpenSpec.ofChange bvUnsSpec)

/-- ITS FALSE NEIGHBOUR: 'it returns false'. Refute it at one input. -/
def bvUnsWrong : ChangeSpec := { name := "bvUns", fn := fun _ => fun
  | [d] => { results := [.lit (.bool false)], args := [d] }
  | _ => none }
def BvUnsWrongFalsely : Prop := bvUnsRow.holds Try.pinned (OpenSpec.ofChange bvUnsWrong)

/-- 'sluicegatelaw01.BvMoves': WHATEVER THE INPUT: true; the input reads as it did. -/
def bvMovesSpec : ChangeSpec := { name := "bvMoves", fn := fun _ => fun
  | [d1, d2] => { results := [.lit (.bool true)], args := [d1, d2] }
  | _ => none }
def bvMovesRow : OpenClaim := { program := "ytmimafbedbohiaa", sum := "fa34e4bfaef3264649ebdfc270f19f4d2fdb4c11d81065d8b59c7f7446825092", func := "sluicegate/sluicegatelaw01.BvMoves", spec := "bvMoves", inPlace := ["math/bits.Add64"], unfollowed := true, recurses := true, apart := false }
def BvMovesSaid : Prop := bvMovesRow.holds Try.pinned (OpenSpec.ofChange bvMovesSpec)

/-- ITS FALSE NEIGHBOUR: 'it returns false'. Refute it at one input. -/
def bvMovesWrong : ChangeSpec := { name := "bvMoves", fn := fun _ => fun
  | [d1, d2] => { results := [.lit (.bool false)], args := [d1, d2] }
  | _ => none }
def BvMovesWrongFalsely : Prop := bvMovesRow.holds Try.pinned (OpenSpec.ofChange bvMovesWrong)

/- THE SECOND FORM. 'bulk': how many values and letters a reading holds, each counted each time it is reached (what is shared counts as often as it is met; a slice's spare places count too). A statement '..UptoSaid' is the law's where the arguments, and the package variables that the reading takes, are together of bulk at most 1048576: NARROWER than '..Said'. Prove '..Said' where nothing that the law and all that it calls make is longer than what came in: it says more and counts as full. Else prove '..UptoSaid'. A law counts once. -/
mutual
def uptoBulk {H : Type} : DataW H → Nat
  | .lit (.string bytes) => bytes.length + 1
  | .lit _ => 1
  | .nil => 1
  | .ptr d => uptoBulk d + 1
  | .slice elems spare => uptoBulkAll elems + uptoBulkAll spare + 1
  | .agg parts => uptoBulkAll parts + 1
  | .iface _ d => uptoBulk d + 1
  | .map entries => uptoBulkEntries entries + 1
  | .held _ => 1
def uptoBulkAll {H : Type} : List (DataW H) → Nat
  | [] => 0
  | d :: r => uptoBulk d + uptoBulkAll r
def uptoBulkEntries {H : Type} : List (Lit × DataW H) → Nat
  | [] => 0
  | x :: r => uptoBulkEntry x + uptoBulkEntries r
def uptoBulkEntry {H : Type} : Lit × DataW H → Nat
  | (.string bytes, d) => bytes.length + uptoBulk d + 1
  | (_, d) => uptoBulk d + 1
 end
def uptoSmall : (H : Type) → List (DataW H) → Bool := fun _ ds => decide (uptoBulkAll ds ≤ 1048576)
def OpenSpec.upto (s : _root_.Go.ChangeSpec) : _root_.Go.OpenSpec := { _root_.Go.OpenSpec.ofChange s with cond := some uptoSmall }

/-- 'sluicegatelaw01.BvNumbers', WHERE WHAT IT READS IS OF BULK AT MOST 1048576: true; the input reads as it did. -/
def bvNumbersUptoRow : OpenClaim := { program := "ytmimafbedbohiaa", sum := "fa34e4bfaef3264649ebdfc270f19f4d2fdb4c11d81065d8b59c7f7446825092", func := "sluicegate/sluicegatelaw01.BvNumbers", spec := "bvNumbers", inPlace := ["math/bits.Add64"], unfollowed := true, recurses := true, apart := false, narrowed := true }
def BvNumbersUptoSaid : Prop := bvNumbersUptoRow.holds Try.pinned (OpenSpec.upto bvNumbersSpec)

/-- 'sluicegatelaw01.BvMakes', WHERE WHAT IT READS IS OF BULK AT MOST 1048576: true; the input reads as it did. -/
def bvMakesUptoRow : OpenClaim := { program := "ytmimafbedbohiaa", sum := "fa34e4bfaef3264649ebdfc270f19f4d2fdb4c11d81065d8b59c7f7446825092", func := "sluicegate/sluicegatelaw01.BvMakes", spec := "bvMakes", inPlace := ["math/bits.Add64"], unfollowed := true, recurses := true, apart := false, narrowed := true }
def BvMakesUptoSaid : Prop := bvMakesUptoRow.holds Try.pinned (OpenSpec.upto bvMakesSpec)

/-- 'sluicegatelaw01.BvBins', WHERE WHAT IT READS IS OF BULK AT MOST 1048576: true; the input reads as it did. -/
def bvBinsUptoRow : OpenClaim := { program := "ytmimafbedbohiaa", sum := "fa34e4bfaef3264649ebdfc270f19f4d2fdb4c11d81065d8b59c7f7446825092", func := "sluicegate/sluicegatelaw01.BvBins", spec := "bvBins", inPlace := ["math/bits.Add64"], unfollowed := true, recurses := true, apart := false, narrowed := true }
def BvBinsUptoSaid : Prop := bvBinsUptoRow.holds Try.pinned (OpenSpec.upto bvBinsSpec)

/-- 'sluicegatelaw01.BvOrders', WHERE WHAT IT READS IS OF BULK AT MOST 1048576: true; the input reads as it did. -/
def bvOrdersUptoRow : OpenClaim := { program := "ytmimafbedbohiaa", sum := "fa34e4bfaef3264649ebdfc270f19f4d2fdb4c11d81065d8b59c7f7446825092", func := "sluicegate/sluicegatelaw01.BvOrders", spec := "bvOrders", inPlace := ["math/bits.Add64"], unfollowed := true, recurses := true, apart := false, narrowed := true }
def BvOrdersUptoSaid : Prop := bvOrdersUptoRow.holds Try.pinned (OpenSpec.upto bvOrdersSpec)

/-- 'sluicegatelaw01.BvRing', WHERE WHAT IT READS IS OF BULK AT MOST 1048576: true; the input reads as it did. -/
def bvRingUptoRow : OpenClaim := { program := "ytmimafbedbohiaa", sum := "fa34e4bfaef3264649ebdfc270f19f4d2fdb4c11d81065d8b59c7f7446825092", func := "sluicegate/sluicegatelaw01.BvRing", spec := "bvRing", inPlace := ["math/bits.Add64"], unfollowed := true, recurses := true, apart := false, narrowed := true }
def BvRingUptoSaid : Prop := bvRingUptoRow.holds Try.pinned (OpenSpec.upto bvRingSpec)

/-- 'sluicegatelaw01.BvDivides', WHERE WHAT IT READS IS OF BULK AT MOST 1048576: true; the input reads as it did. -/
def bvDividesUptoRow : OpenClaim := { program := "ytmimafbedbohiaa", sum := "fa34e4bfaef3264649ebdfc270f19f4d2fdb4c11d81065d8b59c7f7446825092", func := "sluicegate/sluicegatelaw01.BvDivides", spec := "bvDivides", inPlace := ["math/bits.Add64"], unfollowed := true, recurses := true, apart := false, narrowed := true }
def BvDividesUptoSaid : Prop := bvDividesUptoRow.holds Try.pinned (OpenSpec.upto bvDividesSpec)

/-- 'sluicegatelaw01.BvSplits', WHERE WHAT IT READS IS OF BULK AT MOST 1048576: true; the input reads as it did. -/
def bvSplitsUptoRow : OpenClaim := { program := "ytmimafbedbohiaa", sum := "fa34e4bfaef3264649ebdfc270f19f4d2fdb4c11d81065d8b59c7f7446825092", func := "sluicegate/sluicegatelaw01.BvSplits", spec := "bvSplits", inPlace := ["math/bits.Add64"], unfollowed := true, recurses := true, apart := false, narrowed := true }
def BvSplitsUptoSaid : Prop := bvSplitsUptoRow.holds Try.pinned (OpenSpec.upto bvSplitsSpec)

/-- 'sluicegatelaw01.BvParts', WHERE WHAT IT READS IS OF BULK AT MOST 1048576: true; the input reads as it did. -/
def bvPartsUptoRow : OpenClaim := { program := "ytmimafbedbohiaa", sum := "fa34e4bfaef3264649ebdfc270f19f4d2fdb4c11d81065d8b59c7f7446825092", func := "sluicegate/sluicegatelaw01.BvParts", spec := "bvParts", inPlace := ["math/bits.Add64"], unfollowed := true, recurses := true, apart := false, narrowed := true }
def BvPartsUptoSaid : Prop := bvPartsUptoRow.holds Try.pinned (OpenSpec.upto bvPartsSpec)

/-- 'sluicegatelaw01.BvUns', WHERE WHAT IT READS IS OF BULK AT MOST 1048576: true; the input reads as it did. -/
def bvUnsUptoRow : OpenClaim := { program := "ytmimafbedbohiaa", sum := "fa34e4bfaef3264649ebdfc270f19f4d2fdb4c11d81065d8b59c7f7446825092", func := "sluicegate/sluicegatelaw01.BvUns", spec := "bvUns", inPlace := ["math/bits.Add64"], unfollowed := true, recurses := true, apart := false, narrowed := true }
def BvUnsUptoSaid : Prop := bvUnsUptoRow.holds Try.pinned (OpenSpec.upto bvUnsSpec)

/-- 'sluicegatelaw01.BvMoves', WHERE WHAT IT READS IS OF BULK AT MOST 1048576: true; the input reads as it did. -/
def bvMovesUptoRow : OpenClaim := { program := "ytmimafbedbohiaa", sum := "fa34e4bfaef3264649ebdfc270f19f4d2fdb4c11d81065d8b59c7f7446825092", func := "sluicegate/sluicegatelaw01.BvMoves", spec := "bvMoves", inPlace := ["math/bits.Add64"], unfollowed := true, recurses := true, apart := false, narrowed := true }
def BvMovesUptoSaid : Prop := bvMovesUptoRow.holds Try.pinned (OpenSpec.upto bvMovesSpec)

end Rows
end Go.Proofs.Ytmimafbedbohiaa
