
import Derived.Test.YtcdjkbgedmehjaaDoorVB8
import Derived.Test.YtcdjkbgedmehjaaDoorVB4
import Derived.Test.YtcdjkbgedmehjaaDoorVA40
namespace Go.Proofs.YtcdjkbgedmehjaaDoor
set_option linter.unusedVariables false
open Go.RowKit
theorem run_enter {f : FuncId} {fn : Func} {c : Code} (hf : Tryd.prog.funcs[f]? = some fn) (hname : (fn.name == "runtime.NumGoroutine") = false) (hb : fn.body = some c) (args : Array Value) (w : World) :
    (callFunc f args).run Tryd.prog w = .ok (.enter f args) w := by
  have h1 : fn.name ≠ "runtime.NumGoroutine" := by simpa using hname
  simp [callFunc, hf, h1, hb]
theorem Tr.far {w W : World} {ls} (h : Tr w ls W) (j : Nat) {b t : Nat} {l : List Value} (hj : ls[j]? = some (b, t, l)) : w.heap.size ≤ b := h.ge _ (List.mem_of_getElem? hj)
theorem b2n_lt (q : Bool) : b2n q < 2 ^ 1 := by cases q <;> decide
end Go.Proofs.YtcdjkbgedmehjaaDoor
namespace Go.Proofs.YtcdjkbgedmehjaaDoor
set_option linter.unusedVariables false
open Go.RowKit
end Go.Proofs.YtcdjkbgedmehjaaDoor
