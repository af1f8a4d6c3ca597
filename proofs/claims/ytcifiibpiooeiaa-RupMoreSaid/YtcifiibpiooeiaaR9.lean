import Derived.Test.YtcifiibpiooeiaaR8
namespace Go.Proofs.Ytcifiibpiooeiaa
set_option linter.unusedVariables false
open Go Go.Lib Go.RowKit Go.Sort

/-! ## a list sorted by slices.Sort and compacted -/
def AscI (l : List Int) : Prop := ∀ i j, i < j → j < l.length → l.getD i 0 ≤ l.getD j 0
theorem compactI {l : List Int} (h : AscI l) : (compact l).Nodup ∧ ∀ z, z ∈ compact l ↔ z ∈ l := by
  have hk : ∀ j, keeps l.toArray j = true ↔ j = 0 ∨ l.toArray[j]! ≠ l.toArray[j - 1]! := by
    intro j; unfold keeps; simp
  unfold compact compactUpTo
  constructor
  · refine List.pairwise_map.2 ?_
    have hp : ((List.range l.length).filter (keeps l.toArray)).Pairwise (· < ·) := List.Pairwise.filter _ List.pairwise_lt_range
    refine hp.imp_of_mem ?_
    intro i j hi hj hij
    obtain ⟨hi1, _⟩ := List.mem_filter.1 hi
    obtain ⟨hj1, hj2⟩ := List.mem_filter.1 hj
    have hil := List.mem_range.1 hi1
    have hjl := List.mem_range.1 hj1
    rcases (hk j).1 hj2 with e | e
    · omega
    · rw [getD_bang l j hjl, getD_bang l (j - 1) (by omega)] at e
      rw [getD_bang l i hil, getD_bang l j hjl]
      have h1 := h (j - 1) j (by omega) hjl
      have h2 : l.getD i 0 ≤ l.getD (j - 1) 0 := by
        by_cases e' : i = j - 1
        · rw [e']; exact Int.le_refl _
        · exact h i (j - 1) (by omega) (by omega)
      omega
  · intro z
    rw [List.mem_map]
    constructor
    · rintro ⟨i, hi, rfl⟩
      have := List.mem_range.1 (List.mem_filter.1 hi).1
      rw [getD_bang l i this]
      simp [List.getD, List.getElem?_eq_getElem this]
    · intro hz
      obtain ⟨i, hi, e⟩ := List.getElem_of_mem hz
      have e' : l.getD i 0 = z := by simp [List.getD, List.getElem?_eq_getElem hi, e]
      clear e hz
      induction i using Nat.strongRecOn with
      | ind i ih =>
        by_cases h0 : keeps l.toArray i = true
        · exact ⟨i, List.mem_filter.2 ⟨List.mem_range.2 hi, h0⟩, by rw [getD_bang l i hi, e']⟩
        · have : ¬ (i = 0 ∨ l.toArray[i]! ≠ l.toArray[i - 1]!) := fun q => h0 ((hk i).2 q)
          have hi0 : i ≠ 0 := fun q => this (.inl q)
          have he : l.toArray[i]! = l.toArray[i - 1]! := Classical.byContradiction fun q => this (.inr q)
          rw [getD_bang l i hi, getD_bang l (i - 1) (by omega)] at he
          exact ih (i - 1) (by omega) (by omega) (by rw [← he, e'])
def sortI (l : List Int) : List Int := l.mergeSort fun x y => decide (x ≤ y)
theorem sortI_len (l : List Int) : (sortI l).length = l.length := List.length_mergeSort l
theorem sortI_mem (l : List Int) (z : Int) : z ∈ sortI l ↔ z ∈ l := List.mem_mergeSort
theorem sortI_asc (l : List Int) : AscI (sortI l) := fun i j hij hj => by
  have h := List.pairwise_mergeSort (le := fun x y : Int => decide (x ≤ y)) (fun a b c h1 h2 => by simp at h1 h2 ⊢; omega) (fun a b => by simp; omega) l
  have := List.pairwise_iff_getElem.1 h i j (by show i < (sortI l).length; omega) hj hij
  have h2 : (sortI l)[i]'(by omega) ≤ (sortI l)[j] := of_decide_eq_true this
  simpa [List.getD, List.getElem?_eq_getElem (show i < (sortI l).length by omega), List.getElem?_eq_getElem hj] using h2
/-- what add keeps of a clause -/
def clauseI (l : List Int) : List Int := compact (sortI l)
theorem clauseI_nd (l : List Int) : (clauseI l).Nodup := (compactI (sortI_asc l)).1
theorem clauseI_mem (l : List Int) (z : Int) : z ∈ clauseI l ↔ z ∈ l := ((compactI (sortI_asc l)).2 z).trans (sortI_mem l z)
theorem clauseI_len (l : List Int) : (clauseI l).length ≤ l.length := by
  have := compact_length_le (sortI l)
  rw [sortI_len] at this
  exact this
theorem sort_own {w : World} {base g cap : Nat} {l : List Int} (h : w.ownsRow base 3 1 (.slice (some ⟨g, 0, none⟩) l.length cap) l.length (ints l)) (hn : l.length ≤ 1000000000000) :
    Calls Try.prog 79 #[.slice (some ⟨g, 0, none⟩) l.length cap] w fun e w' => e = .returned (.tuple #[]) ∧ w'.ownsRow base 3 1 (.slice (some ⟨g, 0, none⟩) l.length cap) l.length (ints (sortI l)) ∧ w.grownBy w' (some g) := by
  obtain ⟨hH, hbg, hlt, _, hcap⟩ := holds_own h
  refine (Try.slices_Sort_int g 0 cap l w hH hlt (by omega)).mono ?_
  rintro e w' ⟨he, n, os, rfl⟩
  refine ⟨he, ?_, grownBy_sortedI _⟩
  rcases h.2 with ⟨e0, _⟩ | ⟨g', cap', cur, e1, hb, hg, h1, h2, h3, h4⟩
  · cases e0
  · cases e1
    exact ownsRow_sortedI (ss := l) (ts := sortI l) (sortI_len l) hbg hg h1 h2 h3
theorem comp_own {w : World} {base g cap : Nat} {l : List Int} (h : w.ownsRow base 3 1 (.slice (some ⟨g, 0, none⟩) l.length cap) l.length (ints l)) (hn : l.length ≤ 1000000000000) :
    Calls Try.prog 64 #[.slice (some ⟨g, 0, none⟩) l.length cap] w fun e w' => e = .returned (.slice (some ⟨g, 0, none⟩) (compact l).length cap) ∧ w'.ownsRow base 3 1 (.slice (some ⟨g, 0, none⟩) (compact l).length cap) (compact l).length (ints (compact l)) ∧ w.grownBy w' (some g) := by
  obtain ⟨hH, hbg, hlt, _, hcap⟩ := holds_own h
  refine (Try.slices_Compact_int g 0 cap l w hH (by omega) hcap).mono ?_
  rintro e w' ⟨he, q, rfl⟩
  have hle := compact_length_le l
  obtain ⟨N, hN⟩ : ∃ N, compact l = N := ⟨_, rfl⟩
  rw [hN] at he hle ⊢
  have hgr := grownBy_sortedI (w := w) (g := g) (n := q) (os := #[]) (N ++ List.replicate (l.length - N.length) 0).toArray
  rw [grow_empty] at hgr
  refine ⟨he, ?_, hgr⟩
  rcases h.2 with ⟨e0, _⟩ | ⟨g', cap', cur, e1, hb, hg, h1, h2, h3, h4⟩
  · cases e0
  · cases e1
    have ho := ownsRow_sortedI (w := w) (base := base) (n := q) (os := #[]) (ss := l) (ts := N ++ List.replicate (l.length - N.length) 0) (by simp; omega) hbg hg h1 h2 h3
    rw [grow_empty] at ho
    rcases ho.2 with ⟨e0, _⟩ | ⟨g'', cap'', cur', e1', hb', hg', h1', h2', h3', h4'⟩
    · cases e0
    · cases e1'
      refine ⟨by simp [ints], .inr ⟨g, cap, cur', rfl, hb', hg', by omega, h2', h3', ?_⟩⟩
      have := congrArg (List.take N.length) h4'
      rw [List.take_take, Nat.min_eq_left (by omega)] at this
      rw [Nat.mul_one, this]
      simp [ints]
end Go.Proofs.Ytcifiibpiooeiaa
