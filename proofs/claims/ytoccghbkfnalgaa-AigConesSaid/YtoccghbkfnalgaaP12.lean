import Derived.Test.YtoccghbkfnalgaaP11
namespace Go.Proofs.Ytoccghbkfnalgaa
set_option linter.unusedVariables false

/-- the list with a 1 at each of L -/
def inTo (L : List Int) (n : Nat) : Nat → List Bool
  | 0 => List.replicate n false
  | k + 1 => (inTo L n k).set (L.getD k 0).toNat true
theorem inTo_succ (L : List Int) (n k : Nat) : inTo L n (k + 1) = (inTo L n k).set (L.getD k 0).toNat true := rfl
theorem inTo_length (L : List Int) (n : Nat) : ∀ k, (inTo L n k).length = n
  | 0 => by simp [inTo]
  | k + 1 => by rw [inTo_succ, List.length_set, inTo_length L n k]
theorem inTo_at (L : List Int) (n : Nat) (hL : ∀ i, i < L.length → 0 ≤ L.getD i 0) : ∀ k, k ≤ L.length → ∀ m, m < n → ((inTo L n k).getD m false = true ↔ ∃ i, i < k ∧ L.getD i 0 = m)
  | 0, _, m, hm => by
    simp only [inTo, List.getD, List.getElem?_replicate, if_pos hm, Option.getD_some]
    exact Iff.intro (fun h => nomatch h) (fun ⟨i, hi, _⟩ => absurd hi (Nat.not_lt_zero _))
  | k + 1, hk, m, hm => by
    have ih := inTo_at L n hL k (by omega) m hm
    have h0 := hL k (by omega)
    rw [inTo_succ, getD_set, inTo_length]
    split
    · rename_i h
      refine ⟨fun _ => ⟨k, Nat.lt_succ_self _, by omega⟩, fun _ => rfl⟩
    · rename_i h
      rw [ih]
      constructor
      · rintro ⟨i, hi, e⟩; exact ⟨i, by omega, e⟩
      · rintro ⟨i, hi, e⟩
        by_cases hik : i = k
        · subst hik; exact absurd ⟨by omega, by omega⟩ h
        · exact ⟨i, by omega, e⟩

theorem inTo_all {g : G} (hw : WF g) {S : List Bool} {L : List Int} (h : ConeOk g S L) (m : Nat) (hm : m < g.nodes.length) (h0 : 0 < m) : (inTo L g.nodes.length L.length).getD m false = inCone g S m := by
  have h1 := inTo_at L g.nodes.length (fun i hi => by obtain ⟨n, e, _⟩ := h.get i hi; omega) L.length (Nat.le_refl _) m hm
  have h2 : (∃ i, i < L.length ∧ L.getD i 0 = m) ↔ inCone g S m = true := by
    constructor
    · rintro ⟨i, hi, e⟩
      obtain ⟨n, e', _, _, hc⟩ := h.get i hi
      have : n = m := by omega
      exact this ▸ hc
    · intro hc
      obtain ⟨i, hi, e⟩ := List.getElem_of_mem ((h.mem (m : Int)).2 ⟨m, rfl, h0, hm, hc⟩)
      exact ⟨i, hi, by rw [List.getD, List.getElem?_eq_getElem hi]; exact e⟩
  rw [h2] at h1
  cases h3 : (inTo L g.nodes.length L.length).getD m false <;> cases h4 : inCone g S m <;> simp_all

theorem gCone_len (g : G) (lits : List Int) : (gCone g lits).length ≤ g.nodes.length - 1 := by
  rw [gCone, List.length_reverse]; exact coneOut_length _ _ _

theorem gCone_bad (g : G) (lits : List Int) (x y : Int) (hx : ¬ g.lit x) (hy : ¬ g.lit y) : gCone g (lits ++ [x, y]) = gCone g lits := by
  rw [gCone, rootsTo_bad g lits x y hx hy]; rfl
end Go.Proofs.Ytoccghbkfnalgaa
