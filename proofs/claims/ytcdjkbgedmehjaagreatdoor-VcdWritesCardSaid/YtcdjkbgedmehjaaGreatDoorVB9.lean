
import Derived.Test.YtcdjkbgedmehjaaGreatDoorVB8
import Derived.Test.YtcdjkbgedmehjaaGreatDoorVB4
import Derived.Test.YtcdjkbgedmehjaaGreatDoorVA40
namespace Go.Proofs.YtcdjkbgedmehjaaGreatDoor
set_option linter.unusedVariables false
open Go.RowKit
theorem run_enter {f : FuncId} {fn : Func} {c : Code} (hf : Tryz.prog.funcs[f]? = some fn) (hname : (fn.name == "runtime.NumGoroutine") = false) (hb : fn.body = some c) (args : Array Value) (w : World) :
    (callFunc f args).run Tryz.prog w = .ok (.enter f args) w := by
  have h1 : fn.name ≠ "runtime.NumGoroutine" := by simpa using hname
  simp [callFunc, hf, h1, hb]
theorem Tr.far {w W : World} {ls} (h : Tr w ls W) (j : Nat) {b t : Nat} {l : List Value} (hj : ls[j]? = some (b, t, l)) : w.heap.size ≤ b := h.ge _ (List.mem_of_getElem? hj)
theorem b2n_lt (q : Bool) : b2n q < 2 ^ 1 := by cases q <;> decide
end Go.Proofs.YtcdjkbgedmehjaaGreatDoor
namespace Go.Proofs.YtcdjkbgedmehjaaGreatDoor
set_option linter.unusedVariables false
open Go.RowKit
end Go.Proofs.YtcdjkbgedmehjaaGreatDoor
