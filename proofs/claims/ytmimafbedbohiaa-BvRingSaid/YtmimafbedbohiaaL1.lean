import Derived.Test.YtmimafbedbohiaaA19
namespace Go.Proofs.Ytmimafbedbohiaa
set_option linter.unusedVariables false
open Go.RowKit Go.Deep Go.ChangeShapes Go.WideShapes

theorem own : ownKnob Try.prog.godebug = none := by kernel_rfl
theorem laidOut : laidOutB Try.prog = true := by kernel_rfl
/-- a slice of bits that is read, and its capacity -/
theorem rc_bools {H : Type} {enc : TypeId × Value → H} {P : Program} {w : World} {t e : Nat} {v : Value} {d : DataW H} {ps : List MemPlace} {r : Reach} {b0 : Nat}
    (ht : P.underlying t = some (.slice e)) (he : P.underlying e = some .bool) (hc : P.cellsOf e = 1)
    (hval : Value.okWide P w r b0 t v) (h : DataW.Trod enc P w 0 (fun _ => true) true t v d ps) :
    ∃ (l : List Bool) (p : Option Addr) (c : Nat), v = .slice p l.length c ∧ l.length ≤ c ∧ RO w v 1 l.length (bools l) ∧ l.length ≤ maxLen := by
  obtain ⟨l, h1, h2⟩ := ro_bools ht he hc hval h
  obtain ⟨p, c, rfl⟩ := h1.form
  refine ⟨l, p, c, rfl, ?_, h1, h2⟩
  obtain ⟨fuel, hfu⟩ := h
  rcases open_slice ht hfu with ⟨hcs, _⟩ | ⟨a, len, cap, m, n, D, Pl, hcs, _, hl, hm, hmm, _, hel⟩
  · simp [Value.cells] at hcs
    simp [hcs.2.1]
  · simp [Value.cells] at hcs
    obtain ⟨_, rfl, rfl⟩ := hcs
    have : m = c := by simpa using hmm
    simpa [this] using hl
theorem rl_self (l : List Bool) : rl l.length (fun i => l.getD i false) = l := by
  apply List.ext_getElem?
  intro i
  simp only [rl, List.getElem?_map]
  by_cases h : i < l.length
  · rw [List.getElem?_range h]; simp [h]
  · rw [List.getElem?_eq_none (by simpa using h), List.getElem?_eq_none (by omega)]; rfl
end Go.Proofs.Ytmimafbedbohiaa
