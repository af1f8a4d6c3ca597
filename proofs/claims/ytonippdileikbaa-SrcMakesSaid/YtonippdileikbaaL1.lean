import Derived.Test.YtonippdileikbaaA4
import Derived.ChangeMaps5
namespace Go.Proofs.Ytonippdileikbaa
set_option linter.unusedVariables false
open Go.ChangeShapes Go.WideShapes Go.ChangeAt Go.RowKit

theorem own : ownKnob Try.prog.godebug = none := by kernel_rfl
theorem laidOut : laidOutB Try.prog = true := by kernel_rfl

theorem i64_bd {n : Int} (h : (Lit.int .i64 n).wf = true) : -9223372036854775808 ≤ n ∧ n ≤ 9223372036854775807 := by
  simp [Lit.wf, IntKind.min, IntKind.max, IntKind.signed, IntKind.bits] at h
  omega

theorem open_three {H : Type} {enc : TypeId × Value → H} {P : Program} {w : World} {r : Reach} {b0 t e : Nat} {f0 f1 f2 : Field} {v : Value} {d : DataW H} {p : List MemPlace} (hs : P.underlying t = some (.struct #[f0, f1, f2])) (hone : Deep.oneCellFields P #[f0, f1, f2] = true) (hC : P.cellsOf t = 3)
    (he : P.underlying e = some (.int .i64)) (hf : f0.type = e ∧ f1.type = e ∧ f2.type = e)
    (hv : Value.okWide P w r b0 t v) (h : DataW.Trod enc P w 0 (fun _ => true) true t v d p) :
    ∃ a b c : Int, v = .agg #[.int .i64 a, .int .i64 b, .int .i64 c] ∧ (Lit.int .i64 a).wf = true ∧ (Lit.int .i64 b).wf = true ∧ (Lit.int .i64 c).wf = true := by
  obtain ⟨v0, v1, v2, y0, y1, y2, n, rfl, _, _, h0, h1, h2⟩ := Joins.open_agg3 hs hone hC hv h
  obtain ⟨e0, e1, e2⟩ := hf
  rw [e0] at h0
  rw [e1] at h1
  rw [e2] at h2
  obtain ⟨a, k0, _, w0⟩ := DataW.trod_int he h0
  obtain ⟨b, k1, _, w1⟩ := DataW.trod_int he h1
  obtain ⟨c, k2, _, w2⟩ := DataW.trod_int he h2
  simp only [List.cons.injEq, and_true] at k0 k1 k2
  subst k0 k1 k2
  exact ⟨a, b, c, rfl, w0, w1, w2⟩
end Go.Proofs.Ytonippdileikbaa
