import Derived.Test.YtoccghbkfnalgaaP2
namespace Go.Proofs.Ytoccghbkfnalgaa
set_option linter.unusedVariables false

def ofL (lits : List Int) (i : Int) : Int := if lits.length = 0 then 0 else lits.getD (i % lits.length).toNat 0

def gStep (g : G) (kind a b c : Int) : G × Int :=
  if kind = 0 then gInput g else if kind = 1 then gAnd g a b else if kind = 2 then gOr g a b else if kind = 3 then gXor g a b else if kind = 4 then gMux g c a b else (g, tnot a)

def g0 : G := { nodes := [(-1, -1)], inputs := [], known := [] }

def buildTo (acts : List Actn) : Nat → G × List Int
  | 0 => (g0, [])
  | k + 1 =>
    let s := buildTo acts k
    let x := acts.getD k default
    let r := gStep s.1 x.kind (ofL s.2 x.a) (ofL s.2 x.b) (ofL s.2 x.c)
    (r.1, s.2 ++ [r.2])

/-- what holds of a graph that is being built -/
structure BInv (k : Nat) (g : G) (lits : List Int) : Prop where
  len : lits.length = k
  lit : ∀ l ∈ lits, g.lit l
  kn : g.Kn
  pos : 0 < g.nodes.length
  hi : g.nodes.length ≤ 1 + 3 * k
  il : g.inputs.length ≤ k

theorem ofL_lit {k g lits} (h : BInv k g lits) (i : Int) : g.lit (ofL lits i) := by
  unfold ofL
  split
  · exact ⟨Int.le_refl _, by have := h.pos; omega⟩
  · have h0 : 0 ≤ i % (lits.length : Int) := Int.emod_nonneg _ (by omega)
    have h1 : i % (lits.length : Int) < lits.length := Int.emod_lt_of_pos _ (by omega)
    rw [List.getD, List.getElem?_eq_getElem (by omega)]
    exact h.lit _ (List.getElem_mem _)

theorem gAnd_inputs (g : G) (a b : Int) : (gAnd g a b).1.inputs = g.inputs := by
  unfold gAnd; split; rfl; split; rfl; split <;> rfl
theorem gMux_inputs (g : G) (c a b : Int) : (gMux g c a b).1.inputs = g.inputs := by
  unfold gMux; split; rfl; simp [gOr, gAnd_inputs]

theorem gInput_grows (g : G) (hk : g.Kn) : Grows g (gInput g).1 1 ∧ (gInput g).1.lit (gInput g).2 := by
  refine ⟨⟨by simp [gInput], by simp [gInput], ?_⟩, by simp [gInput]; omega, by simp [gInput]; omega⟩
  intro p n h
  have := hk p n h
  simp [gInput]; omega

theorem gXor_grows (g : G) (a b : Int) (ha : g.lit a) (hb : g.lit b) (hk : g.Kn) (hne : 0 < g.nodes.length) : Grows g (gXor g a b).1 3 ∧ (gXor g a b).1.lit (gXor g a b).2 :=
  gMux_grows g a (tnot b) b ha hb.tnot hb hk hne

theorem gStep_grows (g : G) (kind a b c : Int) (ha : g.lit a) (hb : g.lit b) (hc : g.lit c) (hk : g.Kn) (hne : 0 < g.nodes.length) :
    Grows g (gStep g kind a b c).1 3 ∧ (gStep g kind a b c).1.lit (gStep g kind a b c).2 ∧ (gStep g kind a b c).1.inputs.length ≤ g.inputs.length + 1 := by
  unfold gStep
  split
  · have := gInput_grows g hk; exact ⟨this.1.le (by omega), this.2, by simp [gInput]⟩
  split
  · have := gAnd_grows g a b ha hb hk hne; exact ⟨this.1.le (by omega), this.2, by rw [gAnd_inputs]; omega⟩
  split
  · have := gOr_grows g a b ha hb hk hne; exact ⟨this.1.le (by omega), this.2, by simp [gOr, gAnd_inputs]⟩
  split
  · have := gXor_grows g a b ha hb hk hne; exact ⟨this.1, this.2, by rw [gXor, gMux_inputs]; omega⟩
  split
  · have := gMux_grows g c a b hc ha hb hk hne; exact ⟨this.1, this.2, by rw [gMux_inputs]; omega⟩
  · exact ⟨⟨Nat.le_refl _, Nat.le_add_right _ _, hk⟩, ha.tnot, by simp⟩

theorem build_inv (acts : List Actn) : ∀ k, BInv k (buildTo acts k).1 (buildTo acts k).2
  | 0 => ⟨rfl, by simp [buildTo], by intro p n h; simp [buildTo, g0, look] at h, by simp [buildTo, g0], by simp [buildTo, g0], by simp [buildTo, g0]⟩
  | k + 1 => by
    have h := build_inv acts k
    have s := gStep_grows (buildTo acts k).1 (acts.getD k default).kind _ _ _ (ofL_lit h (acts.getD k default).a) (ofL_lit h (acts.getD k default).b) (ofL_lit h (acts.getD k default).c) h.kn h.pos
    refine ⟨by simp [buildTo, h.len], ?_, s.1.kn, by have := s.1.lo; have := h.pos; simp only [buildTo]; omega, by have := s.1.hi; have := h.hi; simp only [buildTo]; omega, by have := s.2.2; have := h.il; simp only [buildTo]; omega⟩
    intro l hl
    simp only [buildTo, List.mem_append, List.mem_singleton] at hl
    rcases hl with hl | rfl
    · exact (h.lit l hl).mono s.1.lo
    · exact s.2.1

/-- an and of what is known makes nothing -/
theorem gAnd_known (g : G) (a b : Int) (ha : 0 ≤ a) (hb : 0 ≤ b) (h : a = 0 ∨ b = 0 ∨ a = 1 ∨ b = 1 ∨ a = b ∨ a = tnot b) : (gAnd g a b).1 = g := by
  unfold gAnd
  split
  · rfl
  · split
    · rfl
    · exfalso
      rename_i h1 h2
      unfold tnot at *
      split at h <;> split at h1 <;> omega
end Go.Proofs.Ytoccghbkfnalgaa
