import Derived.Test.YtoccghbkfnalgaaP9
namespace Go.Proofs.Ytoccghbkfnalgaa
set_option linter.unusedVariables false

/-! what is set stays set; a place is touched by greater nodes alone -/
theorem getD_set_true (S : List Bool) (i n : Nat) (h : S.getD n false = true) : (S.set i true).getD n false = true := by
  rw [getD_set]; split <;> simp_all
theorem coneStep_keeps (g S n m) (h : S.getD m false = true) : (coneStep g S n).getD m false = true := by
  unfold coneStep; split
  · exact getD_set_true _ _ _ (getD_set_true _ _ _ h)
  · exact h
theorem coneTo_keeps (g S) (m : Nat) (j : Nat) (h : (coneTo g S j).getD m false = true) : ∀ k, j ≤ k → (coneTo g S k).getD m false = true
  | 0, hk => by obtain rfl : j = 0 := by omega
                exact h
  | k + 1, hk => by
    by_cases e : j = k + 1
    · subst e; exact h
    · rw [coneTo_succ]; exact coneStep_keeps _ _ _ _ (coneTo_keeps g S m j h k (by omega))

theorem coneStep_far {g : G} (hw : WF g) (S : List Bool) (n m : Nat) (hn : n < g.nodes.length) (h : n ≤ m) : (coneStep g S n).getD m false = S.getD m false := by
  unfold coneStep
  split
  · rename_i hh
    obtain ⟨h1, h2, h3, _⟩ := hw.node n hn hh.2
    rw [getD_set, if_neg (by omega), getD_set, if_neg (by omega)]
  · rfl

theorem coneTo_far {g : G} (hw : WF g) (S : List Bool) (m j : Nat) (hj : g.nodes.length - 1 - j ≤ m) : ∀ k, j ≤ k → k ≤ g.nodes.length - 1 → (coneTo g S k).getD m false = (coneTo g S j).getD m false
  | 0, hk, _ => by obtain rfl : j = 0 := by omega
                   rfl
  | k + 1, hk, hl => by
    by_cases e : j = k + 1
    · subst e; rfl
    · rw [coneTo_succ, coneStep_far hw _ _ _ (by have := hw.pos; omega) (by omega)]
      exact coneTo_far hw S m j hj k (by omega) (by omega)

/-- the nodes in a cone -/
def inCone (g : G) (S : List Bool) (n : Nat) : Bool := (coneTo g S (g.nodes.length - 1)).getD n false

theorem inCone_at {g : G} (hw : WF g) (S : List Bool) (j : Nat) (hj : j < g.nodes.length - 1) : (coneTo g S j).getD (g.nodes.length - 1 - j) false = inCone g S (g.nodes.length - 1 - j) :=
  (coneTo_far hw S _ j (Nat.le_refl _) _ (by omega) (Nat.le_refl _)).symm

theorem inCone_kids {g : G} (hw : WF g) (S : List Bool) (hS : S.length = g.nodes.length) (n : Nat) (h0 : 0 < n) (hn : n < g.nodes.length) (hc : inCone g S n = true) (hne : (g.nodes.getD n (0, 0)).1 ≠ -1) :
    inCone g S ((g.nodes.getD n (0, 0)).1 / 2).toNat = true ∧ inCone g S ((g.nodes.getD n (0, 0)).2 / 2).toNat = true := by
  obtain ⟨h1, h2, h3, _⟩ := hw.node n hn hne
  obtain ⟨j, hj, hjn⟩ : ∃ j, j < g.nodes.length - 1 ∧ g.nodes.length - 1 - j = n := ⟨g.nodes.length - 1 - n, by omega, by omega⟩
  have ha := inCone_at hw S j hj
  rw [hjn, hc] at ha
  have hstep : ∀ m, (coneTo g S (j + 1)).getD m false = true → inCone g S m = true := fun m hm => coneTo_keeps g S m (j + 1) hm _ (by omega)
  have hl : (coneTo g S j).length = g.nodes.length := by rw [coneTo_length, hS]
  constructor
  · apply hstep
    rw [coneTo_succ, hjn, coneStep, if_pos ⟨ha, hne⟩]
    apply getD_set_true
    rw [getD_set, if_pos ⟨rfl, by omega⟩]
  · apply hstep
    rw [coneTo_succ, hjn, coneStep, if_pos ⟨ha, hne⟩, getD_set, if_pos ⟨rfl, by rw [List.length_set]; omega⟩]

theorem inCone_roots (g : G) (S : List Bool) (n : Nat) (h : S.getD n false = true) : inCone g S n = true := coneTo_keeps g S n 0 h _ (Nat.zero_le _)

/-- the list that Cone gives: rising, each in the cone, and all of them -/
theorem coneOut_mem {g : G} (hw : WF g) (S : List Bool) : ∀ j, j ≤ g.nodes.length - 1 → ∀ x, x ∈ coneOut g S j ↔ ∃ n : Nat, x = n ∧ g.nodes.length - 1 - j < n ∧ n < g.nodes.length ∧ inCone g S n = true
  | 0, _, x => by
    simp only [coneOut, List.not_mem_nil, false_iff]
    rintro ⟨n, _, h1, h2, _⟩; omega
  | j + 1, hj, x => by
    have ih := coneOut_mem hw S j (by omega) x
    have ha := inCone_at hw S j (by omega)
    have hp := hw.pos
    rw [coneOut_succ, ha]
    cases hc : inCone g S (g.nodes.length - 1 - j)
    · simp only [if_false, Bool.false_eq_true]
      rw [ih]
      constructor
      · rintro ⟨n, h1, h2, h3, h4⟩; exact ⟨n, h1, by omega, h3, h4⟩
      · rintro ⟨n, h1, h2, h3, h4⟩
        refine ⟨n, h1, ?_, h3, h4⟩
        rcases Nat.lt_or_ge (g.nodes.length - 1 - j) n with h | h
        · exact h
        · have : n = g.nodes.length - 1 - j := by omega
          subst this; rw [hc] at h4; cases h4
    · simp only [if_true, List.mem_append, List.mem_singleton, ih]
      constructor
      · rintro (⟨n, h1, h2, h3, h4⟩ | rfl)
        · exact ⟨n, h1, by omega, h3, h4⟩
        · clear ih; exact ⟨g.nodes.length - 1 - j, rfl, by omega, by omega, hc⟩
      · rintro ⟨n, h1, h2, h3, h4⟩
        rcases Nat.lt_or_ge (g.nodes.length - 1 - j) n with h | h
        · exact .inl ⟨n, h1, h, h3, h4⟩
        · have : n = g.nodes.length - 1 - j := by omega
          subst this; exact .inr h1

theorem coneOut_falls {g : G} (hw : WF g) (S : List Bool) : ∀ j, j ≤ g.nodes.length - 1 → (coneOut g S j).Pairwise (fun a b => b < a)
  | 0, _ => by simp [coneOut]
  | j + 1, hj => by
    rw [coneOut_succ]
    split
    · rw [List.pairwise_append]
      refine ⟨coneOut_falls hw S j (by omega), by simp, ?_⟩
      intro a ha b hb
      obtain ⟨n, rfl, h2, _⟩ := (coneOut_mem hw S j (by omega) a).1 ha
      rw [List.mem_singleton] at hb
      subst hb
      exact Int.ofNat_lt.2 (by omega)
    · exact coneOut_falls hw S j (by omega)

structure ConeOk (g : G) (S : List Bool) (L : List Int) : Prop where
  mem : ∀ x, x ∈ L ↔ ∃ n : Nat, x = n ∧ 0 < n ∧ n < g.nodes.length ∧ inCone g S n = true
  rises : L.Pairwise (fun a b => a < b)

theorem cone_ok {g : G} (hw : WF g) (lits : List Int) : ConeOk g (rootsTo g lits lits.length) (gCone g lits) := by
  refine ⟨fun x => ?_, ?_⟩
  · rw [gCone, List.mem_reverse, coneOut_mem hw _ _ (Nat.le_refl _)]
    constructor
    · rintro ⟨n, h1, h2, h3⟩; exact ⟨n, h1, by omega, h3⟩
    · rintro ⟨n, h1, h2, h3⟩; exact ⟨n, h1, by omega, h3⟩
  · rw [gCone, List.pairwise_reverse]
    exact coneOut_falls hw _ _ (Nat.le_refl _)

theorem ConeOk.get {g S L} (h : ConeOk g S L) (i : Nat) (hi : i < L.length) : ∃ n : Nat, L.getD i 0 = n ∧ 0 < n ∧ n < g.nodes.length ∧ inCone g S n = true := by
  rw [List.getD, List.getElem?_eq_getElem hi]
  exact (h.mem _).1 (List.getElem_mem _)
theorem ConeOk.lt {g S L} (h : ConeOk g S L) (i : Nat) (hi : i + 1 < L.length) : L.getD i 0 < L.getD (i + 1) 0 := by
  rw [List.getD, List.getD, List.getElem?_eq_getElem (by omega), List.getElem?_eq_getElem hi]
  exact List.pairwise_iff_getElem.1 h.rises _ _ _ _ (Nat.lt_succ_self _)

/-- roots -/
theorem rootsTo_keeps (g : G) (lits : List Int) (m j : Nat) (h : (rootsTo g lits j).getD m false = true) : ∀ k, j ≤ k → (rootsTo g lits k).getD m false = true
  | 0, hk => by obtain rfl : j = 0 := by omega
                exact h
  | k + 1, hk => by
    by_cases e : j = k + 1
    · subst e; exact h
    · rw [rootsTo_succ]
      have := rootsTo_keeps g lits m j h k (by omega)
      split
      · exact getD_set_true _ _ _ this
      · exact this
theorem rootsTo_has (g : G) (lits : List Int) (k : Nat) (hk : k < lits.length) (hl : g.lit (lits.getD k 0)) : (rootsTo g lits lits.length).getD (lits.getD k 0 / 2).toNat false = true := by
  refine rootsTo_keeps g lits _ (k + 1) ?_ _ hk
  rw [rootsTo_succ, if_pos ⟨hl.1, hl.2⟩, getD_set, if_pos ⟨rfl, by rw [rootsTo_length]; have := hl.1; have := hl.2; omega⟩]

theorem rootsTo_app (g : G) (lits more : List Int) : ∀ k, k ≤ lits.length → rootsTo g (lits ++ more) k = rootsTo g lits k
  | 0, _ => rfl
  | k + 1, h => by rw [rootsTo_succ, rootsTo_succ, rootsTo_app g lits more k (by omega), getD_append_lt _ _ _ _ (by omega)]

theorem rootsTo_bad (g : G) (lits : List Int) (x y : Int) (hx : ¬ g.lit x) (hy : ¬ g.lit y) : rootsTo g (lits ++ [x, y]) (lits ++ [x, y]).length = rootsTo g lits lits.length := by
  have e : (lits ++ [x, y]).length = lits.length + 1 + 1 := by simp
  have g1 : (lits ++ [x, y]).getD (lits.length + 1) 0 = y := by simp [List.getD]
  have g0 : (lits ++ [x, y]).getD lits.length 0 = x := by simp [List.getD]
  rw [e, rootsTo_succ, g1, if_neg (fun h => hy ⟨h.1, h.2⟩), rootsTo_succ, g0, if_neg (fun h => hx ⟨h.1, h.2⟩), rootsTo_app g lits _ _ (Nat.le_refl _)]
end Go.Proofs.Ytoccghbkfnalgaa
