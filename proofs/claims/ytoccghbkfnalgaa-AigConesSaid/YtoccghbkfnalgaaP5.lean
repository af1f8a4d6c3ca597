import Derived.Test.YtoccghbkfnalgaaP4
namespace Go.Proofs.Ytoccghbkfnalgaa
set_option linter.unusedVariables false

theorem input_wf {g} (hw : WF g) : WF (gInput g).1 := by
  refine ⟨by simp [gInput], ?_, ?_, ?_, ?_, ?_, ?_, ?_⟩
  · simp only [gInput, getD_append_lt _ _ _ _ hw.pos]; exact hw.zero
  · intro n hn hne
    simp only [gInput, List.length_append, List.length_cons, List.length_nil] at hn hne ⊢
    by_cases h : n < g.nodes.length
    · simp only [getD_append_lt _ _ _ _ h] at hne ⊢; exact hw.node n h hne
    · obtain rfl : n = g.nodes.length := by omega
      simp only [getD_append_self] at hne; exact absurd rfl hne
  · intro i hi
    simp only [gInput, List.length_append, List.length_cons, List.length_nil] at hi ⊢
    by_cases h : i < g.inputs.length
    · obtain ⟨h1, h2, h3⟩ := hw.inp i h
      rw [getD_append_lt _ _ _ _ h]
      refine ⟨h1, by omega, ?_⟩
      rw [getD_append_lt _ _ _ _ (by omega)]; exact h3
    · obtain rfl : i = g.inputs.length := by omega
      simp only [getD_append_self, Int.toNat_natCast]
      have := hw.pos
      exact ⟨by omega, by omega, by simp⟩
  · intro i j hij hj
    simp only [gInput, List.length_append, List.length_cons, List.length_nil] at hj ⊢
    rw [getD_append_lt _ _ _ _ (show i < g.inputs.length by omega)]
    by_cases h : j < g.inputs.length
    · rw [getD_append_lt _ _ _ _ h]; exact hw.mono i j hij h
    · obtain rfl : j = g.inputs.length := by omega
      rw [getD_append_self]
      exact (hw.inp i hij).2.1
  · intro p n hl
    obtain ⟨h1, h2, h3⟩ := hw.kn p n hl
    simp only [gInput, List.length_append, List.length_cons, List.length_nil]
    refine ⟨h1, by omega, ?_⟩
    rw [getD_append_lt _ _ _ _ (by omega)]; exact h3
  · intro n hn hne
    simp only [gInput, List.length_append, List.length_cons, List.length_nil] at hn hne ⊢
    by_cases h : n < g.nodes.length
    · simp only [getD_append_lt _ _ _ _ h] at hne ⊢; exact hw.nk n h hne
    · obtain rfl : n = g.nodes.length := by omega
      simp only [getD_append_self] at hne; exact absurd rfl hne
  · have := hw.cnt
    have hf : ([((-1 : Int), (-1 : Int))].filter fun p : Int × Int => p.1 ≠ -1).length = 0 := by simp
    simp only [gInput, List.filter_append, List.length_append, hf, List.length_cons, List.length_nil]
    omega

theorem WF.knw {g} (h : WF g) : g.Kn := fun p n hl => let ⟨a, b, _⟩ := h.kn p n hl; ⟨a, b⟩

theorem or_wf {g a b} (hw : WF g) (ha : g.lit a) (hb : g.lit b) : WF (gOr g a b).1 := and_wf hw ha.tnot hb.tnot
theorem or_val {V ins g a b} (hw : WF g) (ha : g.lit a) (hb : g.lit b) (hv : Valu V ins (gOr g a b).1) : isV V (gOr g a b).2 = (isV V a || isV V b) := by
  have hgr := gAnd_grows g (tnot a) (tnot b) ha.tnot hb.tnot hw.knw hw.pos
  have hl := hv.len
  have hl' := (hv.le (gAnd_le g _ _)).len
  have h := and_val hw ha.tnot hb.tnot hv
  have hr2 := hgr.2.2
  simp only [gOr] at hl ⊢
  rw [isV_tnot hgr.2.1 (by omega), h, isV_tnot ha.1 (by have := ha.2; omega), isV_tnot hb.1 (by have := hb.2; omega)]
  cases isV V a <;> cases isV V b <;> rfl

theorem mux_wf {g c a b} (hw : WF g) (hc : g.lit c) (ha : g.lit a) (hb : g.lit b) : WF (gMux g c a b).1 := by
  unfold gMux
  split
  · exact hw
  · have h1 := gAnd_grows g c a hc ha hw.knw hw.pos
    have w1 := and_wf hw hc ha
    have h2 := gAnd_grows (gAnd g c a).1 (tnot c) b (hc.tnot.mono h1.1.lo) (hb.mono h1.1.lo) w1.knw w1.pos
    have w2 := and_wf w1 (hc.tnot.mono h1.1.lo) (hb.mono h1.1.lo)
    exact or_wf w2 (h1.2.mono h2.1.lo) h2.2
theorem mux_val {V ins g c a b} (hw : WF g) (hc : g.lit c) (ha : g.lit a) (hb : g.lit b) (hv : Valu V ins (gMux g c a b).1) : isV V (gMux g c a b).2 = (if isV V c then isV V a else isV V b) := by
  unfold gMux at hv ⊢
  split
  · rename_i h; subst h; simp
  · rename_i h
    rw [if_neg h] at hv
    have h1 := gAnd_grows g c a hc ha hw.knw hw.pos
    have w1 := and_wf hw hc ha
    have h2 := gAnd_grows (gAnd g c a).1 (tnot c) b (hc.tnot.mono h1.1.lo) (hb.mono h1.1.lo) w1.knw w1.pos
    have w2 := and_wf w1 (hc.tnot.mono h1.1.lo) (hb.mono h1.1.lo)
    have v2 := hv.le (gAnd_le _ _ _)
    have v1 := v2.le (gAnd_le _ _ _)
    have hl := (v1.le (gAnd_le _ _ _)).len
    rw [or_val w2 (h1.2.mono h2.1.lo) h2.2 hv, and_val w1 (hc.tnot.mono h1.1.lo) (hb.mono h1.1.lo) v2, and_val hw hc ha v1, isV_tnot hc.1 (by have := hc.2; omega)]
    cases isV V c <;> simp

theorem xor_wf {g a b} (hw : WF g) (ha : g.lit a) (hb : g.lit b) : WF (gXor g a b).1 := mux_wf hw ha hb.tnot hb
theorem xor_val {V ins g a b} (hw : WF g) (ha : g.lit a) (hb : g.lit b) (hv : Valu V ins (gXor g a b).1) : isV V (gXor g a b).2 = (isV V a != isV V b) := by
  have hl := (hv.le (gMux_le _ _ _ _)).len
  rw [gXor, mux_val hw ha hb.tnot hb hv, isV_tnot hb.1 (by have := hb.2; omega)]
  cases isV V a <;> cases isV V b <;> rfl

theorem step_wf {g kd a b c} (hw : WF g) (ha : g.lit a) (hb : g.lit b) (hc : g.lit c) : WF (gStep g kd a b c).1 := by
  unfold gStep
  split; exact input_wf hw
  split; exact and_wf hw ha hb
  split; exact or_wf hw ha hb
  split; exact xor_wf hw ha hb
  split; exact mux_wf hw hc ha hb
  exact hw

theorem step_val {V ins g kd a b c} (hw : WF g) (ha : g.lit a) (hb : g.lit b) (hc : g.lit c) (hv : Valu V ins (gStep g kd a b c).1) :
    isV V (gStep g kd a b c).2 = actVal kd (isV V a) (isV V b) (isV V c) (ins.getD g.inputs.length false) := by
  unfold gStep at hv ⊢
  unfold actVal
  split
  · rename_i h
    rw [if_pos h] at hv
    have hi := hv.inp g.inputs.length (by simp [gInput])
    have hl := hv.len
    simp only [gInput, getD_append_self, Int.toNat_natCast, List.length_append, List.length_cons, List.length_nil] at hi hl ⊢
    rw [isV_two g.nodes.length (by omega), hi]
  rename_i h0; rw [if_neg h0] at hv
  split
  · rename_i h; rw [if_pos h] at hv; exact and_val hw ha hb hv
  rename_i h1; rw [if_neg h1] at hv
  split
  · rename_i h; rw [if_pos h] at hv; exact or_val hw ha hb hv
  rename_i h2; rw [if_neg h2] at hv
  split
  · rename_i h; rw [if_pos h] at hv; exact xor_val hw ha hb hv
  rename_i h3; rw [if_neg h3] at hv
  split
  · rename_i h; rw [if_pos h] at hv; exact mux_val hw hc ha hb hv
  · rename_i h4; rw [if_neg h4] at hv
    exact isV_tnot ha.1 (by have := ha.2; have := hv.len; simp only at this; omega)

theorem step_inputs {g kd a b c} : (gStep g kd a b c).1.inputs.length = if kd = 0 then g.inputs.length + 1 else g.inputs.length := by
  unfold gStep
  split; · rename_i h; simp [gInput]
  split; rw [gAnd_inputs]
  split; simp [gOr, gAnd_inputs]
  split; rw [gXor, gMux_inputs]
  split; rw [gMux_inputs]
  rfl

theorem build_wf (acts : List Actn) : ∀ k, WF (buildTo acts k).1
  | 0 => ⟨by simp [buildTo, g0], rfl, by intro n hn hne; simp [buildTo, g0] at hn hne; subst hn; simp at hne, by simp [buildTo, g0], by simp [buildTo, g0], by simp [buildTo, g0, look], by intro n hn hne; simp [buildTo, g0] at hn hne; subst hn; simp at hne, rfl⟩
  | k + 1 => by
    have h := build_inv acts k
    exact step_wf (build_wf acts k) (ofL_lit h _) (ofL_lit h _) (ofL_lit h _)

theorem build_le (acts : List Actn) : ∀ k j, k ≤ j → Le (buildTo acts k).1 (buildTo acts j).1
  | k, 0, h => by obtain rfl : k = 0 := by omega
                  exact Le.refl _
  | k, j + 1, h => by
    by_cases e : k = j + 1
    · subst e; exact Le.refl _
    · exact (build_le acts k j (by omega)).trans (gStep_le _ _ _ _ _)

/-- each lit is what its act is -/
theorem build_val (acts : List Actn) (V ins : List Bool) : ∀ k, Valu V ins (buildTo acts k).1 →
    (buildTo acts k).2.map (isV V) = (refTo acts ins k).1 ∧ (buildTo acts k).1.inputs.length = (refTo acts ins k).2
  | 0, _ => by simp [buildTo, refTo, g0]
  | k + 1, hv => by
    have hb := build_inv acts k
    have hvk := hv.le (build_le acts k (k + 1) (by omega))
    obtain ⟨h1, h2⟩ := build_val acts V ins k hvk
    have hop : ∀ i, isV V (ofL (buildTo acts k).2 i) = opV (refTo acts ins k).1 i := by
      intro i
      have hl := refTo_length acts ins k
      unfold ofL opV
      rw [hb.len, hl]
      split
      · exact isV_zero (by have := hb.pos; have := hvk.len; omega) hvk.zero
      · have g0 : 0 ≤ i % (k : Int) := Int.emod_nonneg _ (by omega)
        have g1 : i % (k : Int) < k := Int.emod_lt_of_pos _ (by omega)
        have hlen := hb.len
        rw [← h1, List.getD, List.getD, List.getElem?_map, List.getElem?_eq_getElem (by omega)]
        rfl
    have hs := step_val (build_wf acts k) (ofL_lit hb (acts.getD k default).a) (ofL_lit hb (acts.getD k default).b) (ofL_lit hb (acts.getD k default).c) hv
    rw [hop, hop, hop, h2] at hs
    refine ⟨?_, ?_⟩
    · simp only [buildTo, refTo_succ, List.map_append, List.map_cons, List.map_nil, h1]
      rw [hs]
    · simp only [buildTo, refTo_succ]
      rw [step_inputs, h2]
end Go.Proofs.Ytoccghbkfnalgaa
