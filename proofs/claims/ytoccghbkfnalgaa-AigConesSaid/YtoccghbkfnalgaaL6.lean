/- How long a slice that came in can be: the form's own reach. -/
import Derived.Test.YtoccghbkfnalgaaL4
import Derived.SizedLaws
namespace Go.Proofs.Ytoccghbkfnalgaa
set_option linter.unusedVariables false
open Go.ChangeShapes Go.WideShapes Go.ChangeAt Go.RowKit Go.Deep

theorem reach_le {H : Type} {enc : TypeId × Value → H} {P : Program} {w : World} {t e size n bytes j : Nat} {v : Value} {d : DataW H} {ps : List MemPlace} {cells : List Value} {ts : List TypeId} {ds : List (DataW H)}
    (hz : (DataW.weightsEach P ts ds).all (· ≤ reachBytes) = true) (htj : ts[j]? = some t) (hdj : ds[j]? = some d)
    (ht : P.underlying t = some (.slice e)) (hb : P.bytesOf e = bytes) (ho : RO w v size n cells) (h : DataW.Trod enc P w 0 (fun _ => true) true t v d ps) : n * bytes ≤ reachBytes := by
  obtain ⟨p, c, rfl⟩ := ho.form
  obtain ⟨fuel, hfu⟩ := h
  rcases open_slice ht hfu with ⟨hcs, _⟩ | ⟨a, len, cap, m, n', D, Pl, hcs, _, hl, hm, hmm, hx, hel⟩
  · simp [Value.cells] at hcs
    rw [hcs.2.1]; omega
  · simp [Value.cells] at hcs
    obtain ⟨rfl, rfl, rfl⟩ := hcs
    simp only [Prod.mk.injEq] at hx
    obtain ⟨rfl, _⟩ := hx
    have := sized_slice hz htj hdj ht
    rw [hb, List.length_map, List.length_range, Nat.add_mul] at this
    omega
end Go.Proofs.Ytoccghbkfnalgaa
