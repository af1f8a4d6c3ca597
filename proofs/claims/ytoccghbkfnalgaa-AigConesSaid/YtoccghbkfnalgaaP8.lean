import Derived.Test.YtoccghbkfnalgaaP7
namespace Go.Proofs.Ytoccghbkfnalgaa

/-- the ands ahead of a node, each with its pair -/
def seenTo (g : G) : Nat → List ((Int × Int) × Int)
  | 0 => []
  | k + 1 => if (g.nodes.getD k (0, 0)).1 = -1 then seenTo g k else seenTo g k ++ [(g.nodes.getD k (0, 0), (k : Int))]

theorem look_seen (g : G) (p : Int × Int) (m : Int) : ∀ k, look (seenTo g k) p = some m → ∃ j, j < k ∧ g.nodes.getD j (0, 0) = p ∧ (g.nodes.getD j (0, 0)).1 ≠ -1
  | 0, h => by simp [seenTo, look] at h
  | k + 1, h => by
    unfold seenTo at h
    split at h
    · obtain ⟨j, h1, h2⟩ := look_seen g p m k h; exact ⟨j, by omega, h2⟩
    · rename_i hne
      rw [look_snoc] at h
      cases h' : look (seenTo g k) p with
      | some m' => obtain ⟨j, h1, h2⟩ := look_seen g p m' k h'; exact ⟨j, by omega, h2⟩
      | none =>
        rw [h'] at h; simp at h
        exact ⟨k, by omega, h.1.symm, hne⟩

theorem seen_none (g : G) (hw : WF g) (k : Nat) (hk : k < g.nodes.length) (hne : (g.nodes.getD k (0, 0)).1 ≠ -1) : look (seenTo g k) (g.nodes.getD k (0, 0)) = none := by
  cases h : look (seenTo g k) (g.nodes.getD k (0, 0)) with
  | none => rfl
  | some m =>
    obtain ⟨j, h1, h2, h3⟩ := look_seen g _ m k h
    have e1 := hw.nk k hk hne
    have e2 := hw.nk j (by omega) h3
    rw [h2, e1] at e2
    simp at e2
    omega

/-- the inputs ahead of a node -/
def inCnt (g : G) : Nat → Nat
  | 0 => 0
  | k + 1 => if (g.nodes.getD k (0, 0)).1 = -1 ∧ 0 < k then inCnt g k + 1 else inCnt g k

theorem inCnt_eq (g : G) (hw : WF g) : ∀ k, k ≤ g.nodes.length → inCnt g k + (if k = 0 then 0 else 1) + ((g.nodes.take k).filter fun p => p.1 ≠ -1).length = k
  | 0, _ => by simp [inCnt]
  | k + 1, h => by
    have ih := inCnt_eq g hw k (by omega)
    rw [List.take_succ_eq_append_getElem (by omega), List.filter_append, List.length_append]
    have e : g.nodes[k] = g.nodes.getD k (0, 0) := by simp [List.getD, List.getElem?_eq_getElem (show k < g.nodes.length by omega)]
    rw [e]
    have hz := hw.zero
    by_cases hp : (g.nodes.getD k (0, 0)).1 = -1
    · have hf : ([g.nodes.getD k (0, 0)].filter fun p => p.1 ≠ -1).length = 0 := by rw [List.filter_cons_of_neg (by simpa using hp)]; simp
      rw [hf]
      by_cases hk : k = 0
      · subst hk; simp [inCnt] at ih ⊢
      · rw [inCnt, if_pos ⟨hp, by omega⟩]; simp [hk] at ih ⊢; omega
    · have hf : ([g.nodes.getD k (0, 0)].filter fun p => p.1 ≠ -1).length = 1 := by rw [List.filter_cons_of_pos (by simpa using hp)]; simp
      rw [hf, inCnt, if_neg (fun h => hp h.1)]
      have hk : k ≠ 0 := by rintro rfl; exact hp hz
      simp [hk] at ih ⊢; omega

theorem inCnt_all (g : G) (hw : WF g) : inCnt g g.nodes.length = g.inputs.length := by
  have h := inCnt_eq g hw _ (Nat.le_refl _)
  have := hw.cnt
  have := hw.pos
  rw [List.take_of_length_le (Nat.le_refl _), if_neg (by omega)] at h
  omega

theorem inCnt_le (g : G) : ∀ k, inCnt g k ≤ k
  | 0 => Nat.le_refl _
  | k + 1 => by have := inCnt_le g k; unfold inCnt; split <;> omega

/-- an and that is there is found again -/
theorem again (g : G) (hw : WF g) (n : Nat) (hn : n < g.nodes.length) (a b : Int) (hp : g.nodes.getD n (0, 0) = (a, b)) (hne : a ≠ -1) :
    gAnd g b a = (g, 2 * (n : Int)) ∧ g.lit a ∧ g.lit b ∧ 2 ≤ a ∧ a < b ∧ b / 2 < n ∧ a ≠ tnot b := by
  obtain ⟨h1, h2, h3, h4⟩ := hw.node n hn (by rw [hp]; exact hne)
  have h5 := hw.nk n hn (by rw [hp]; exact hne)
  rw [hp] at h1 h2 h3 h4 h5
  simp only at h1 h2 h3 h4
  refine ⟨?_, ⟨by omega, by omega⟩, ⟨by omega, by omega⟩, h1, h2, h3, h4⟩
  unfold gAnd
  rw [Int.min_eq_right (by omega), Int.max_eq_left (by omega), if_neg (by omega), if_neg (by omega), h5]
end Go.Proofs.Ytoccghbkfnalgaa
