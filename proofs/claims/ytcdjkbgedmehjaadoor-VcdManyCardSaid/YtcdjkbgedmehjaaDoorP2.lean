import Derived.Test.YtcdjkbgedmehjaaDoorP1
import Derived.Lib.ItoaLen
namespace Go.Proofs.YtcdjkbgedmehjaaDoor
set_option linter.unusedVariables false

/-! # plain: a trace and its lines -/
def kTs : List UInt8 := [36, 116, 105, 109, 101, 115, 99, 97, 108, 101]
def kOne : List UInt8 := [49]
def kNs : List UInt8 := [110, 115]
def kEnd : List UInt8 := [36, 101, 110, 100]
def kScope : List UInt8 := [36, 115, 99, 111, 112, 101]
def kModule : List UInt8 := [109, 111, 100, 117, 108, 101]
def kVar : List UInt8 := [36, 118, 97, 114]
def kWire : List UInt8 := [119, 105, 114, 101]
def kUp : List UInt8 := [36, 117, 112, 115, 99, 111, 112, 101]
def kEd : List UInt8 := [36, 101, 110, 100, 100, 101, 102, 105, 110, 105, 116, 105, 111, 110, 115]
def kCom : List UInt8 := [36, 99, 111, 109, 109, 101, 110, 116]
def idL (n : Nat) : List UInt8 := if h : n < 94 then [UInt8.ofNat (33 + n)] else UInt8.ofNat (33 + n % 94) :: idL (n / 94)
termination_by n
decreasing_by omega
/-- a trace: the rows' values with their widths -/
structure Trc where
  top : List UInt8
  vars : List (List UInt8 × Nat)
  rows : List (List (Nat × Nat))
def bitL (n x : Nat) : List UInt8 := (List.range n).map fun j => if x.testBit (n - 1 - j) then 49 else 48
def varLine (i : Nat) (v : List UInt8 × Nat) : List (List UInt8) := [kVar, kWire, Lib.itoa (v.2 : Int), idL i, v.1, kEnd]
def varLines : Nat → List (List UInt8 × Nat) → List (List (List UInt8))
  | _, [] => []
  | i, v :: r => varLine i v :: varLines (i + 1) r
def headLines (T : Trc) : List (List (List UInt8)) := [[kTs, kOne, kNs, kEnd], [kScope, kModule, T.top, kEnd]] ++ varLines 0 T.vars ++ [[kUp, kEnd], [kEd, kEnd]]
/-- what changes: i the first one's number; a the values before (none: all change) -/
def chLines : Nat → Option (List (Nat × Nat)) → List (Nat × Nat) → List (List (List UInt8))
  | _, _, [] => []
  | i, none, v :: r => [98 :: bitL v.1 v.2, idL i] :: chLines (i + 1) none r
  | i, some [], v :: r => [98 :: bitL v.1 v.2, idL i] :: chLines (i + 1) (some []) r
  | i, some (u :: q), v :: r => (if u = v then [] else [[98 :: bitL v.1 v.2, idL i]]) ++ chLines (i + 1) (some q) r
def rowLines (n : Nat) (a : Option (List (Nat × Nat))) (r : List (Nat × Nat)) : List (List (List UInt8)) := [35 :: Lib.itoa (n : Int)] :: chLines 0 a r
def prev (rows : List (List (Nat × Nat))) : Nat → Option (List (Nat × Nat))
  | 0 => none
  | n + 1 => some (rows.getD n [])
/-- the lines of the first n rows -/
def rowsTo (rows : List (List (Nat × Nat))) : Nat → List (List (List UInt8))
  | 0 => []
  | n + 1 => rowsTo rows n ++ rowLines n (prev rows n) (rows.getD n [])
def trcLines (T : Trc) : List (List (List UInt8)) := headLines T ++ rowsTo T.rows T.rows.length
def trcText (T : Trc) : List UInt8 := linesW (trcLines T)
end Go.Proofs.YtcdjkbgedmehjaaDoor
