import Derived.Test.YtoccghbkfnalgaaP10
namespace Go.Proofs.Ytoccghbkfnalgaa
set_option linter.unusedVariables false

/-! the inputs in their order -/
theorem inCnt_le_of {g g' : G} (h : Le g g') : ∀ k, k ≤ g.nodes.length → inCnt g' k = inCnt g k
  | 0, _ => rfl
  | k + 1, hk => by simp only [inCnt, h.nodes k (by omega), inCnt_le_of h k (by omega)]

/-- a node that is an input is the one of its number -/
def Idx (g : G) : Prop := ∀ n, n < g.nodes.length → 0 < n → (g.nodes.getD n (0, 0)).1 = -1 → g.inputs.getD (inCnt g n) 0 = n

theorem inCnt_lt (g : G) (hw : WF g) (n : Nat) (hn : n < g.nodes.length) (h0 : 0 < n) (hp : (g.nodes.getD n (0, 0)).1 = -1) : inCnt g n < g.inputs.length := by
  have h1 : inCnt g (n + 1) = inCnt g n + 1 := by rw [inCnt, if_pos ⟨hp, h0⟩]
  have hm : ∀ k, n + 1 ≤ k → inCnt g (n + 1) ≤ inCnt g k := by
    intro k hk
    induction k with
    | zero => omega
    | succ k ih =>
      by_cases e : n + 1 = k + 1
      · rw [e]; exact Nat.le_refl _
      · have := ih (by omega)
        have : inCnt g k ≤ inCnt g (k + 1) := by rw [inCnt]; split <;> omega
        omega
  have := hm g.nodes.length hn
  rw [inCnt_all g hw] at this
  omega

theorem idx_le {g g' : G} (hw : WF g) (hi : Idx g) (h : Le g g') (n : Nat) (hn : n < g.nodes.length) (h0 : 0 < n) (hp : (g'.nodes.getD n (0, 0)).1 = -1) : g'.inputs.getD (inCnt g' n) 0 = n := by
  rw [h.nodes n hn] at hp
  rw [inCnt_le_of h n (by omega), h.inputs _ (inCnt_lt g hw n hn h0 hp)]
  exact hi n hn h0 hp

theorem idx_and {g a b} (hw : WF g) (hi : Idx g) (ha : g.lit a) (hb : g.lit b) : Idx (gAnd g a b).1 := by
  intro n hn h0 hp
  by_cases h : n < g.nodes.length
  · exact idx_le hw hi (gAnd_le g a b) n h h0 hp
  · exfalso
    have hmn : 0 ≤ min a b := by have := ha.1; have := hb.1; omega
    revert hn hp
    unfold gAnd
    split
    · intro hn; exact absurd hn h
    · split
      · intro hn; exact absurd hn h
      · split
        · intro hn; exact absurd hn h
        · intro hn hp
          simp only [List.length_append, List.length_cons, List.length_nil] at hn
          obtain rfl : n = g.nodes.length := by omega
          simp only [getD_append_self] at hp
          omega

theorem idx_input {g} (hw : WF g) (hi : Idx g) : Idx (gInput g).1 := by
  intro n hn h0 hp
  by_cases h : n < g.nodes.length
  · exact idx_le hw hi (gInput_le g) n h h0 hp
  · simp only [gInput, List.length_append, List.length_cons, List.length_nil] at hn
    obtain rfl : n = g.nodes.length := by omega
    rw [inCnt_le_of (gInput_le g) _ (Nat.le_refl _), inCnt_all g hw]
    simp only [gInput, getD_append_self]

theorem idx_or {g a b} (hw : WF g) (hi : Idx g) (ha : g.lit a) (hb : g.lit b) : Idx (gOr g a b).1 := idx_and hw hi ha.tnot hb.tnot
theorem idx_mux {g c a b} (hw : WF g) (hi : Idx g) (hc : g.lit c) (ha : g.lit a) (hb : g.lit b) : Idx (gMux g c a b).1 := by
  unfold gMux
  split
  · exact hi
  · have h1 := gAnd_grows g c a hc ha hw.knw hw.pos
    have w1 := and_wf hw hc ha
    have h2 := gAnd_grows (gAnd g c a).1 (tnot c) b (hc.tnot.mono h1.1.lo) (hb.mono h1.1.lo) w1.knw w1.pos
    have w2 := and_wf w1 (hc.tnot.mono h1.1.lo) (hb.mono h1.1.lo)
    exact idx_or w2 (idx_and w1 (idx_and hw hi hc ha) (hc.tnot.mono h1.1.lo) (hb.mono h1.1.lo)) (h1.2.mono h2.1.lo) h2.2
theorem idx_step {g kd a b c} (hw : WF g) (hi : Idx g) (ha : g.lit a) (hb : g.lit b) (hc : g.lit c) : Idx (gStep g kd a b c).1 := by
  unfold gStep
  split; exact idx_input hw hi
  split; exact idx_and hw hi ha hb
  split; exact idx_or hw hi ha hb
  split; exact idx_mux hw hi ha hb.tnot hb
  split; exact idx_mux hw hi hc ha hb
  exact hi
theorem build_idx (acts : List Actn) : ∀ k, Idx (buildTo acts k).1
  | 0 => by intro n hn h0; simp [buildTo, g0] at hn; omega
  | k + 1 => by
    have h := build_inv acts k
    exact idx_step (build_wf acts k) (build_idx acts k) (ofL_lit h _) (ofL_lit h _) (ofL_lit h _)

/-! the other inputs -/
def otherTo (g : G) (C : Nat → Bool) (ins : List Bool) : Nat → List Bool
  | 0 => ins
  | n + 1 => if (g.nodes.getD n (0, 0)).1 = -1 ∧ 0 < n ∧ C n = false ∧ inCnt g n < ins.length then (otherTo g C ins n).set (inCnt g n) (!(otherTo g C ins n).getD (inCnt g n) false) else otherTo g C ins n
theorem otherTo_succ (g C ins) (n : Nat) : otherTo g C ins (n + 1) = if (g.nodes.getD n (0, 0)).1 = -1 ∧ 0 < n ∧ C n = false ∧ inCnt g n < ins.length then (otherTo g C ins n).set (inCnt g n) (!(otherTo g C ins n).getD (inCnt g n) false) else otherTo g C ins n := rfl
theorem otherTo_length (g C ins) : ∀ n, (otherTo g C ins n).length = ins.length
  | 0 => rfl
  | n + 1 => by rw [otherTo_succ]; split <;> simp [otherTo_length g C ins n]

theorem other_same {g : G} (hw : WF g) (hi : Idx g) (C : Nat → Bool) (ins : List Bool) (m : Nat) (hm : m < g.nodes.length) (h0 : 0 < m) (hp : (g.nodes.getD m (0, 0)).1 = -1) (hc : C m = true) :
    ∀ n, n ≤ g.nodes.length → (otherTo g C ins n).getD (inCnt g m) false = ins.getD (inCnt g m) false
  | 0, _ => rfl
  | n + 1, hn => by
    rw [otherTo_succ]
    split
    · rename_i h
      obtain ⟨h1, h2, h3, h4⟩ := h
      have hne : inCnt g n ≠ inCnt g m := by
        intro e
        have e1 := hi n (by omega) h2 h1
        have e2 := hi m hm h0 hp
        rw [e, e2] at e1
        have : m = n := by omega
        subst this; rw [hc] at h3; cases h3
      rw [getD_set, if_neg (fun h => hne h.1)]
      exact other_same hw hi C ins m hm h0 hp hc n (by omega)
    · exact other_same hw hi C ins m hm h0 hp hc n (by omega)

/-- in the cone the values are the same -/
theorem cone_vals {g : G} (hw : WF g) (hi : Idx g) (S : List Bool) (hS : S.length = g.nodes.length) (ins : List Bool) : ∀ n, n < g.nodes.length → (n = 0 ∨ inCone g S n = true) →
    (gEval g (otherTo g (inCone g S) ins g.nodes.length)).getD n false = (gEval g ins).getD n false := by
  intro n
  induction n using Nat.strongRecOn with
  | _ n ih =>
    intro hn hc
    obtain ⟨v1, l1⟩ := eval_valu g hw ins
    obtain ⟨v2, l2⟩ := eval_valu g hw (otherTo g (inCone g S) ins g.nodes.length)
    by_cases h0 : n = 0
    · subst h0; rw [v1.zero, v2.zero]
    · have hc : inCone g S n = true := hc.resolve_left h0
      by_cases hp : (g.nodes.getD n (0, 0)).1 = -1
      · have e1 := v1.inp (inCnt g n) (inCnt_lt g hw n hn (by omega) hp)
        have e2 := v2.inp (inCnt g n) (inCnt_lt g hw n hn (by omega) hp)
        rw [hi n hn (by omega) hp] at e1 e2
        simp only [Int.toNat_natCast] at e1 e2
        rw [e1, e2]
        exact other_same hw hi _ ins n hn (by omega) hp hc _ (Nat.le_refl _)
      · obtain ⟨k1, k2⟩ := inCone_kids hw S hS n (by omega) hn hc hp
        obtain ⟨h1, h2, h3, _⟩ := hw.node n hn hp
        rw [v1.node n hn hp, v2.node n hn hp]
        have i1 := ih ((g.nodes.getD n (0, 0)).1 / 2).toNat (by omega) (by omega) (.inr k1)
        have i2 := ih ((g.nodes.getD n (0, 0)).2 / 2).toNat (by omega) (by omega) (.inr k2)
        rw [isV_congr (by rw [l1, l2]) i1, isV_congr (by rw [l1, l2]) i2]

theorem cone_lit {g : G} (hw : WF g) (hi : Idx g) (lits : List Int) (ins : List Bool) (k : Nat) (hk : k < lits.length) (hl : g.lit (lits.getD k 0)) :
    isV (gEval g (otherTo g (inCone g (rootsTo g lits lits.length)) ins g.nodes.length)) (lits.getD k 0) = isV (gEval g ins) (lits.getD k 0) := by
  obtain ⟨v1, l1⟩ := eval_valu g hw ins
  obtain ⟨v2, l2⟩ := eval_valu g hw (otherTo g (inCone g (rootsTo g lits lits.length)) ins g.nodes.length)
  refine isV_congr (by rw [l1, l2]) (cone_vals hw hi _ (rootsTo_length _ _ _) ins _ (by have := hl.1; have := hl.2; omega) (.inr ?_))
  exact inCone_roots g _ _ (rootsTo_has g lits k hk hl)
end Go.Proofs.Ytoccghbkfnalgaa
