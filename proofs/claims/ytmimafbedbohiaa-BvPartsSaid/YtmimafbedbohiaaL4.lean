import Derived.Test.YtmimafbedbohiaaB5
import Derived.ChangeMaps5
import Derived.WideShapes
namespace Go.Proofs.Ytmimafbedbohiaa
set_option linter.unusedVariables false
open Go.ChangeShapes Go.WideShapes Go.ChangeAt Go.RowKit

/-- an array of three integers that came in -/
theorem open_arr3 {H : Type} {enc : TypeId × Value → H} {P : Program} {w : World} {r : Reach} {b0 t e : Nat} {v : Value} {d : DataW H} {p : List MemPlace} (hs : P.underlying t = some (.array 3 e)) (hC : P.cellsOf t = 3) (hC1 : P.cellsOf e = 1)
    (he : P.underlying e = some (.int .i64)) (hv : Value.okWide P w r b0 t v) (h : DataW.Trod enc P w 0 (fun _ => true) true t v d p) :
    ∃ a b c : Int, v = .agg #[.int .i64 a, .int .i64 b, .int .i64 c] := by
  simp only [Value.okWide, hs] at hv
  obtain ⟨cs, rfl, h2, _⟩ := hv
  rw [hC] at h2
  obtain ⟨m, hf⟩ := h
  obtain ⟨l⟩ := cs
  match l, h2 with
  | [x, y, z], _ =>
    cases m with
    | zero => simp [DataW.trod] at hf
    | succ m =>
      rw [DataW.trod_step] at hf
      unfold DataW.trodStep at hf
      simp only [hs, Value.cells, hC1] at hf
      rw [if_pos (by rw [hC]; rfl)] at hf
      simp only [Option.map_eq_some_iff] at hf
      obtain ⟨ys, hy, _⟩ := hf
      rw [show List.range 3 = [0, 1, 2] from rfl] at hy
      simp only [List.mapM_cons, List.mapM_nil, bind, Option.bind_eq_some_iff, pure] at hy
      obtain ⟨y0, hy0, y1, ⟨y2, hy2, y3, ⟨y4, hy4, y5, _, _⟩, _⟩, _⟩ := hy
      obtain ⟨a, ea, _, _⟩ := DataW.trod_int he hy0
      obtain ⟨b, eb, _, _⟩ := DataW.trod_int he hy2
      obtain ⟨c, ec, _, _⟩ := DataW.trod_int he hy4
      simp at ea eb ec
      subst ea; subst eb; subst ec
      exact ⟨a, b, c, rfl⟩
end Go.Proofs.Ytmimafbedbohiaa
