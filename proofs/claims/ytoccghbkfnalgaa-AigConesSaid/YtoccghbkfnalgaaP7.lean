import Derived.Test.YtoccghbkfnalgaaP6
namespace Go.Proofs.Ytoccghbkfnalgaa

theorem getD_app (l m : List Actn) (k : Nat) (h : k < l.length) : (l ++ m).getD k default = l.getD k default := getD_append_lt _ _ _ _ h

theorem build_app (l m : List Actn) : ∀ k, k ≤ l.length → buildTo (l ++ m) k = buildTo l k
  | 0, _ => rfl
  | k + 1, h => by simp only [buildTo, build_app l m k (by omega), getD_app l m k (by omega)]
theorem ref_app (l m : List Actn) (ins : List Bool) : ∀ k, k ≤ l.length → refTo (l ++ m) ins k = refTo l ins k
  | 0, _ => rfl
  | k + 1, h => by simp only [refTo, ref_app l m ins k (by omega), getD_app l m k (by omega)]

theorem build_lit_stay (l : List Actn) (i k : Nat) (hi : i < k) : ∀ j, k ≤ j → (buildTo l j).2.getD i 0 = (buildTo l k).2.getD i 0
  | 0, h => by omega
  | j + 1, h => by
    by_cases e : k = j + 1
    · subst e; rfl
    · rw [← build_lit_stay l i k hi j (by omega)]
      have hl := (build_inv l j).len
      simp only [buildTo]
      rw [getD_append_lt _ _ _ _ (by omega)]
theorem ref_stay (l : List Actn) (ins : List Bool) (i k : Nat) (hi : i < k) : ∀ j, k ≤ j → (refTo l ins j).1.getD i false = (refTo l ins k).1.getD i false
  | 0, h => by omega
  | j + 1, h => by
    by_cases e : k = j + 1
    · subst e; rfl
    · rw [← ref_stay l ins i k hi j (by omega)]
      have hl := refTo_length l ins j
      simp only [refTo]
      rw [getD_append_lt _ _ _ _ (by omega)]

/-- the law of growing, plain -/
theorem grows (l m : List Actn) (ins : List Bool) (i : Nat) (hi : i < l.length) :
    (buildTo (l ++ m) (l ++ m).length).2.getD i 0 = (buildTo l l.length).2.getD i 0 ∧
    isV (gEval (buildTo (l ++ m) (l ++ m).length).1 ins) ((buildTo l l.length).2.getD i 0) = isV (gEval (buildTo l l.length).1 ins) ((buildTo l l.length).2.getD i 0) ∧
    (buildTo l l.length).1.lit ((buildTo l l.length).2.getD i 0) ∧ (buildTo (l ++ m) (l ++ m).length).1.lit ((buildTo l l.length).2.getD i 0) ∧
    (buildTo l l.length).1.nodes.length ≤ (buildTo (l ++ m) (l ++ m).length).1.nodes.length := by
  have hll : l.length ≤ (l ++ m).length := by simp
  have e1 : (buildTo (l ++ m) (l ++ m).length).2.getD i 0 = (buildTo l l.length).2.getD i 0 := by
    rw [build_lit_stay (l ++ m) i l.length hi _ hll, build_app l m _ (Nat.le_refl _)]
  have m1 := means l ins i hi _ rfl
  have m2 := means (l ++ m) ins i (by omega) _ rfl
  rw [e1] at m2
  refine ⟨e1, ?_, m1.2, m2.2, ?_⟩
  · rw [m1.1, m2.1, ref_stay (l ++ m) ins i l.length hi _ hll, ref_app l m ins _ (Nat.le_refl _)]
  · have := (build_le (l ++ m) l.length _ hll).nl
    rw [build_app l m _ (Nat.le_refl _)] at this
    exact this
end Go.Proofs.Ytoccghbkfnalgaa
