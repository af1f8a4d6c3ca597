/-
  No cell of these rows narrows 'for every input' (looked for: loops, veiled, ifaces, maps, wideKeys, modest, calm, conditions, laid).
  DERIVED. THE GIVEN ROWS OF THIS SEAT. 4 by the template 'for every input the law returns true; each argument reads behind the call as it read before'; 0 by the template 'total and deterministic' (their statements: YtcifiibpiooeiaaTotals.lean).
  GIVEN WITH THE SEED: the statements are not yours to turn. If you find one false, say at which input.
  Laid BY PROGRAM, IN A SANDBOX (cutbox-rows.mjs): the forced cells as the released guide's own fill.sh prints them over the translation fb0dc9c3d70edf60… (all of the seat's roots in one cut). By AI agents, Wed Nov 11 2026. No macro, syntax, notation, axiom, sorry.
-/
import Derived.Test.YtcifiibpiooeiaaChecked
import GoSem.Claim
import GoSem.ClaimJoined
import GoSem.ClaimMapViews
import Derived.JoinedTies
import Derived.KernelRfl
namespace Go.Proofs.Ytcifiibpiooeiaa
/- THE CELL 'sum', in the pinned program and in every row, IS THE sha256 OF THE DUMP (.gsa) THAT YtcifiibpiooeiaaProg.lean LOADS. Nothing in Lean hashes anything: it is a label: what it is worth is what the hold of that sum in a sandbox is worth. -/
noncomputable def Try.pinned : Pinned := { name := "ytcifiibpiooeiaa", sum := "fb0dc9c3d70edf601ff4502d6e674d5d0af9ec68e785533cf5b208c45a7f1fe6", checked := Try.checked }
namespace Rows
def none {H : Type} : Left H := { results := [], args := [] }

/-- 'sluicegatelaw05.RupMore': WHATEVER THE INPUT: true; the input reads as it did. -/
def rupMoreSpec : ChangeSpec := { name := "rupMore", fn := fun _ => fun
  | [d1, d2, d3] => { results := [.lit (.bool true)], args := [d1, d2, d3] }
  | _ => none }
def rupMoreRow : OpenClaim := { program := "ytcifiibpiooeiaa", sum := "fb0dc9c3d70edf601ff4502d6e674d5d0af9ec68e785533cf5b208c45a7f1fe6", func := "sluicegate/sluicegatelaw05.RupMore", spec := "rupMore", unfollowed := true, recurses := true, apart := false }
def RupMoreSaid : Prop := rupMoreRow.holds Try.pinned (OpenSpec.ofChange rupMoreSpec)

/-- ITS FALSE NEIGHBOUR: 'it returns false'. Refute it at one input. -/
def rupMoreWrong : ChangeSpec := { name := "rupMore", fn := fun _ => fun
  | [d1, d2, d3] => { results := [.lit (.bool false)], args := [d1, d2, d3] }
  | _ => none }
def RupMoreWrongFalsely : Prop := rupMoreRow.holds Try.pinned (OpenSpec.ofChange rupMoreWrong)

/-- 'sluicegatelaw04.SatBudgets': WHATEVER THE INPUT: true; the input reads as it did. -/
def satBudgetsSpec : ChangeSpec := { name := "satBudgets", fn := fun _ => fun
  | [d1, d2, d3] => { results := [.lit (.bool true)], args := [d1, d2, d3] }
  | _ => none }
def satBudgetsRow : OpenClaim := { program := "ytcifiibpiooeiaa", sum := "fb0dc9c3d70edf601ff4502d6e674d5d0af9ec68e785533cf5b208c45a7f1fe6", func := "sluicegate/sluicegatelaw04.SatBudgets", spec := "satBudgets", unfollowed := true, recurses := true, apart := false }
def SatBudgetsSaid : Prop := satBudgetsRow.holds Try.pinned (OpenSpec.ofChange satBudgetsSpec)

/-- ITS FALSE NEIGHBOUR: 'it returns false'. Refute it at one input. -/
def satBudgetsWrong : ChangeSpec := { name := "satBudgets", fn := fun _ => fun
  | [d1, d2, d3] => { results := [.lit (.bool false)], args := [d1, d2, d3] }
  | _ => none }
def SatBudgetsWrongFalsely : Prop := satBudgetsRow.holds Try.pinned (OpenSpec.ofChange satBudgetsWrong)

/-- 'sluicegatelaw04.SatLuby': WHATEVER THE INPUT: true; the input reads as it did. -/
def satLubySpec : ChangeSpec := { name := "satLuby", fn := fun _ => fun
  | [d1, d2] => { results := [.lit (.bool true)], args := [d1, d2] }
  | _ => none }
def satLubyRow : OpenClaim := { program := "ytcifiibpiooeiaa", sum := "fb0dc9c3d70edf601ff4502d6e674d5d0af9ec68e785533cf5b208c45a7f1fe6", func := "sluicegate/sluicegatelaw04.SatLuby", spec := "satLuby", unfollowed := true, recurses := true, apart := false }
def SatLubySaid : Prop := satLubyRow.holds Try.pinned (OpenSpec.ofChange satLubySpec)

/-- ITS FALSE NEIGHBOUR: 'it returns false'. Refute it at one input. -/
def satLubyWrong : ChangeSpec := { name := "satLuby", fn := fun _ => fun
  | [d1, d2] => { results := [.lit (.bool false)], args := [d1, d2] }
  | _ => none }
def SatLubyWrongFalsely : Prop := satLubyRow.holds Try.pinned (OpenSpec.ofChange satLubyWrong)

/-- 'sluicegatelaw04.SatRight': WHATEVER THE INPUT: true; the input reads as it did. -/
def satRightSpec : ChangeSpec := { name := "satRight", fn := fun _ => fun
  | [d1, d2, d3] => { results := [.lit (.bool true)], args := [d1, d2, d3] }
  | _ => none }
def satRightRow : OpenClaim := { program := "ytcifiibpiooeiaa", sum := "fb0dc9c3d70edf601ff4502d6e674d5d0af9ec68e785533cf5b208c45a7f1fe6", func := "sluicegate/sluicegatelaw04.SatRight", spec := "satRight", unfollowed := true, recurses := true, apart := false }
def SatRightSaid : Prop := satRightRow.holds Try.pinned (OpenSpec.ofChange satRightSpec)

/-- ITS FALSE NEIGHBOUR: 'it returns false'. Refute it at one input. -/
def satRightWrong : ChangeSpec := { name := "satRight", fn := fun _ => fun
  | [d1, d2, d3] => { results := [.lit (.bool false)], args := [d1, d2, d3] }
  | _ => none }
def SatRightWrongFalsely : Prop := satRightRow.holds Try.pinned (OpenSpec.ofChange satRightWrong)

/- THE SECOND FORM. 'bulk': how many values and letters a reading holds, each counted each time it is reached (what is shared counts as often as it is met; a slice's spare places count too). A statement '..UptoSaid' is the law's where the arguments, and the package variables that the reading takes, are together of bulk at most 1048576: NARROWER than '..Said'. Prove '..Said' where nothing that the law and all that it calls make is longer than what came in: it says more and counts as full. Else prove '..UptoSaid'. A law counts once. -/
mutual
def uptoBulk {H : Type} : DataW H → Nat
  | .lit (.string bytes) => bytes.length + 1
  | .lit _ => 1
  | .nil => 1
  | .ptr d => uptoBulk d + 1
  | .slice elems spare => uptoBulkAll elems + uptoBulkAll spare + 1
  | .agg parts => uptoBulkAll parts + 1
  | .iface _ d => uptoBulk d + 1
  | .map entries => uptoBulkEntries entries + 1
  | .held _ => 1
def uptoBulkAll {H : Type} : List (DataW H) → Nat
  | [] => 0
  | d :: r => uptoBulk d + uptoBulkAll r
def uptoBulkEntries {H : Type} : List (Lit × DataW H) → Nat
  | [] => 0
  | x :: r => uptoBulkEntry x + uptoBulkEntries r
def uptoBulkEntry {H : Type} : Lit × DataW H → Nat
  | (.string bytes, d) => bytes.length + uptoBulk d + 1
  | (_, d) => uptoBulk d + 1
 end
def uptoSmall : (H : Type) → List (DataW H) → Bool := fun _ ds => decide (uptoBulkAll ds ≤ 1048576)
def OpenSpec.upto (s : _root_.Go.ChangeSpec) : _root_.Go.OpenSpec := { _root_.Go.OpenSpec.ofChange s with cond := some uptoSmall }

/-- 'sluicegatelaw05.RupMore', WHERE WHAT IT READS IS OF BULK AT MOST 1048576: true; the input reads as it did. -/
def rupMoreUptoRow : OpenClaim := { program := "ytcifiibpiooeiaa", sum := "fb0dc9c3d70edf601ff4502d6e674d5d0af9ec68e785533cf5b208c45a7f1fe6", func := "sluicegate/sluicegatelaw05.RupMore", spec := "rupMore", unfollowed := true, recurses := true, apart := false, narrowed := true }
def RupMoreUptoSaid : Prop := rupMoreUptoRow.holds Try.pinned (OpenSpec.upto rupMoreSpec)

/-- 'sluicegatelaw04.SatBudgets', WHERE WHAT IT READS IS OF BULK AT MOST 1048576: true; the input reads as it did. -/
def satBudgetsUptoRow : OpenClaim := { program := "ytcifiibpiooeiaa", sum := "fb0dc9c3d70edf601ff4502d6e674d5d0af9ec68e785533cf5b208c45a7f1fe6", func := "sluicegate/sluicegatelaw04.SatBudgets", spec := "satBudgets", unfollowed := true, recurses := true, apart := false, narrowed := true }
def SatBudgetsUptoSaid : Prop := satBudgetsUptoRow.holds Try.pinned (OpenSpec.upto satBudgetsSpec)

/-- 'sluicegatelaw04.SatLuby', WHERE WHAT IT READS IS OF BULK AT MOST 1048576: true; the input reads as it did. -/
def satLubyUptoRow : OpenClaim := { program := "ytcifiibpiooeiaa", sum := "fb0dc9c3d70edf601ff4502d6e674d5d0af9ec68e785533cf5b208c45a7f1fe6", func := "sluicegate/sluicegatelaw04.SatLuby", spec := "satLuby", unfollowed := true, recurses := true, apart := false, narrowed := true }
def SatLubyUptoSaid : Prop := satLubyUptoRow.holds Try.pinned (OpenSpec.upto satLubySpec)

/-- 'sluicegatelaw04.SatRight', WHERE WHAT IT READS IS OF BULK AT MOST 1048576: true; the input reads as it did. -/
def satRightUptoRow : OpenClaim := { program := "ytcifiibpiooeiaa", sum := "fb0dc9c3d70edf601ff4502d6e674d5d0af9ec68e785533cf5b208c45a7f1fe6", func := "sluicegate/sluicegatelaw04.SatRight", spec := "satRight", unfollowed := true, recurses := true, apart := false, narrowed := true }
def SatRightUptoSaid : Prop := satRightUptoRow.holds Try.pinned (OpenSpec.upto satRightSpec)

end Rows
end Go.Proofs.Ytcifiibpiooeiaa
