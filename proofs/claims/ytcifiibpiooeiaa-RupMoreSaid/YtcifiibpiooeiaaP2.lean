import Derived.Test.YtcifiibpiooeiaaP1
import Derived.Lib.SlicesCompact
namespace Go.Proofs.Ytcifiibpiooeiaa
set_option linter.unusedVariables false
open Go Go.Lib

/-- ascending in the order of literals -/
def Asc (l : List Int) : Prop := ∀ i j, i < j → j < l.length → ¬ klt (l.getD j 0) (l.getD i 0)
theorem getD_bang (l : List Int) (i : Nat) (h : i < l.length) : l.toArray[i]! = l.getD i 0 := by
  simp [List.getD, List.getElem?_eq_getElem h, getElem!_pos l.toArray i (by simpa using h)]

theorem compact_ss {l : List Int} (h : Asc l) : SS (compact l) ∧ ∀ z, z ∈ compact l ↔ z ∈ l := by
  have hk : ∀ j, keeps l.toArray j = true ↔ j = 0 ∨ l.toArray[j]! ≠ l.toArray[j - 1]! := by
    intro j; unfold keeps; simp
  unfold compact compactUpTo
  constructor
  · refine List.pairwise_map.2 ?_
    have hp : ((List.range l.length).filter (keeps l.toArray)).Pairwise (· < ·) := List.Pairwise.filter _ List.pairwise_lt_range
    refine hp.imp_of_mem ?_
    intro i j hi hj hij
    obtain ⟨hi1, _⟩ := List.mem_filter.1 hi
    obtain ⟨hj1, hj2⟩ := List.mem_filter.1 hj
    have hil := List.mem_range.1 hi1
    have hjl := List.mem_range.1 hj1
    rcases (hk j).1 hj2 with e | e
    · omega
    · rw [getD_bang l j hjl, getD_bang l (j - 1) (by omega)] at e
      rw [getD_bang l i hil, getD_bang l j hjl]
      have h1 := h (j - 1) j (by omega) hjl
      have h2 : i = j - 1 ∨ ¬ klt (l.getD (j - 1) 0) (l.getD i 0) := by
        by_cases e' : i = j - 1
        · exact .inl e'
        · exact .inr (h i (j - 1) (by omega) (by omega))
      rcases h2 with e' | e'
      · rw [e']; rcases klt_total (l.getD (j - 1) 0) (l.getD j 0) with k | k | k
        · exact k
        · exact absurd k.symm e
        · exact absurd k h1
      · rcases klt_total (l.getD (j - 1) 0) (l.getD j 0) with k | k | k
        · rcases klt_total (l.getD i 0) (l.getD (j - 1) 0) with q | q | q
          · exact klt_trans q k
          · rw [q]; exact k
          · exact absurd q e'
        · exact absurd k.symm e
        · exact absurd k h1
  · intro z
    rw [List.mem_map]
    constructor
    · rintro ⟨i, hi, rfl⟩
      have := List.mem_range.1 (List.mem_filter.1 hi).1
      rw [getD_bang l i this]
      simp [List.getD, List.getElem?_eq_getElem this]
    · intro hz
      obtain ⟨i, hi, e⟩ := List.getElem_of_mem hz
      have e' : l.getD i 0 = z := by simp [List.getD, List.getElem?_eq_getElem hi, e]
      clear e hz
      induction i using Nat.strongRecOn with
      | ind i ih =>
        by_cases h0 : keeps l.toArray i = true
        · exact ⟨i, List.mem_filter.2 ⟨List.mem_range.2 hi, h0⟩, by rw [getD_bang l i hi, e']⟩
        · have : ¬ (i = 0 ∨ l.toArray[i]! ≠ l.toArray[i - 1]!) := fun q => h0 ((hk i).2 q)
          have hi0 : i ≠ 0 := fun q => this (.inl q)
          have he : l.toArray[i]! = l.toArray[i - 1]! := Classical.byContradiction fun q => this (.inr q)
          rw [getD_bang l i hi, getD_bang l (i - 1) (by omega)] at he
          exact ih (i - 1) (by omega) (by omega) (by rw [← he, e'])
theorem compact_norm {l l' : List Int} (h : Asc l') (hm : ∀ z, z ∈ l' ↔ z ∈ l) : compact l' = norm l :=
  norm_eq (compact_ss h).1 fun z => by rw [(compact_ss h).2, hm]
end Go.Proofs.Ytcifiibpiooeiaa
