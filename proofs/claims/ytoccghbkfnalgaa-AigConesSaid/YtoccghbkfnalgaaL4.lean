/- How an argument of the laws is read. -/
import Derived.Test.YtoccghbkfnalgaaB4
import Derived.Test.YtoccghbkfnalgaaL2
import Derived.OpenShut
import Derived.Lib.SmallJoins
namespace Go.Proofs.Ytoccghbkfnalgaa
set_option linter.unusedVariables false
open Go.ChangeShapes Go.WideShapes Go.ChangeAt Go.RowKit

theorem own : ownKnob Try.prog.godebug = none := by kernel_rfl
theorem laidOut : laidOutB Try.prog = true := by kernel_rfl

theorem ro_acts {H : Type} {enc : TypeId × Value → H} {w : World} {v : Value} {d : DataW H} {ps : List MemPlace} {r : Reach} {b0 : Nat}
    (hval : Value.okWide Try.prog w r b0 22 v) (h : DataW.Trod enc Try.prog w 0 (fun _ => true) true 22 v d ps) :
    ∃ l : List Actn, RO w v 4 l.length (actCells l) ∧ l.length ≤ maxLen := by
  exact ro_open Try.underlying22 (by kernel_rfl) (by decide) (fun x : Actn => [.int .i64 x.kind, .int .i64 x.a, .int .i64 x.b, .int .i64 x.c]) (fun _ => rfl) hval h (fun fuel cs x hx hl => by
    obtain ⟨y0, y1, y2, y3, n, _, _, h0, h1, h2, h3⟩ := Joins.trod_struct4 Try.underlying52 hx
    match cs, hl with
    | [c0, c1, c2, c3], _ =>
      obtain ⟨a, e0, _⟩ := DataW.trod_int Try.underlying3 h0
      obtain ⟨b, e1, _⟩ := DataW.trod_int Try.underlying3 h1
      obtain ⟨c, e2, _⟩ := DataW.trod_int Try.underlying3 h2
      obtain ⟨d, e3, _⟩ := DataW.trod_int Try.underlying3 h3
      have hc : Try.prog.cellsOf 3 = 1 := by kernel_rfl
      simp [hc] at e0 e1 e2 e3
      exact ⟨⟨a, b, c, d⟩, by rw [e0, e1, e2, e3]⟩)

end Go.Proofs.Ytoccghbkfnalgaa
