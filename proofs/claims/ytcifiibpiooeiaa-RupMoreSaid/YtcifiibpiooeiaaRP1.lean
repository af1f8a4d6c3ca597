import Derived.Test.YtcifiibpiooeiaaP3
namespace Go.Proofs.Ytcifiibpiooeiaa
set_option linter.unusedVariables false

/-! # unit propagation, plainly -/
inductive Der (cls : List Int → Prop) (A : Int → Prop) : Int → Prop
  | asm {x : Int} : A x → Der cls A x
  | unit {l : List Int} {x : Int} : cls l → x ∈ l → (∀ y, y ∈ l → y ≠ x → Der cls A (-y)) → Der cls A x
def Fails (cls : List Int → Prop) (A : Int → Prop) : Prop := (∃ l, cls l ∧ ∀ y, y ∈ l → Der cls A (-y)) ∨ ∃ x, Der cls A x ∧ Der cls A (-x)
theorem Der.mono {c c' : List Int → Prop} {A A' : Int → Prop} (hc : ∀ l, c l → c' l) (hA : ∀ x, A x → A' x) {x : Int} (h : Der c A x) : Der c' A' x := by
  induction h with
  | asm h => exact .asm (hA _ h)
  | unit h1 h2 _ ih => exact .unit (hc _ h1) h2 ih
theorem Fails.mono {c c' : List Int → Prop} {A A' : Int → Prop} (hc : ∀ l, c l → c' l) (hA : ∀ x, A x → A' x) (h : Fails c A) : Fails c' A' := by
  rcases h with ⟨l, h1, h2⟩ | ⟨x, h1, h2⟩
  · exact .inl ⟨l, hc l h1, fun y hy => (h2 y hy).mono hc hA⟩
  · exact .inr ⟨x, h1.mono hc hA, h2.mono hc hA⟩
/-- a closed, consistent set of literals holds all that follows -/
theorem closed_der {c : List Int → Prop} {A : Int → Prop} {T : Int → Prop} (hA : ∀ x, A x → T x) (hu : ∀ l x, c l → x ∈ l → (∀ y, y ∈ l → y ≠ x → T (-y)) → T x) {x : Int} (h : Der c A x) : T x := by
  induction h with
  | asm h => exact hA _ h
  | unit h1 h2 _ ih => exact hu _ _ h1 h2 ih
theorem closed_ok {c : List Int → Prop} {A : Int → Prop} {T : Int → Prop} (hA : ∀ x, A x → T x) (hu : ∀ l x, c l → x ∈ l → (∀ y, y ∈ l → y ≠ x → T (-y)) → T x)
    (hc : ∀ x, T x → ¬ T (-x)) (hf : ∀ l, c l → ∃ y, y ∈ l ∧ ¬ T (-y)) : ¬ Fails c A := by
  rintro (⟨l, h1, h2⟩ | ⟨x, h1, h2⟩)
  · obtain ⟨y, hy, hn⟩ := hf l h1
    exact hn (closed_der hA hu (h2 y hy))
  · exact hc x (closed_der hA hu h1) (closed_der hA hu h2)

/-- the place of a literal's watches -/
def slotN (x : Int) : Nat := if x < 0 then 2 * x.natAbs + 1 else 2 * x.natAbs
theorem slotN_inj {x y : Int} (hx : x ≠ 0) (h : slotN x = slotN y) : x = y := by unfold slotN at h; split at h <;> split at h <;> omega
theorem slotN_lt {x : Int} {v : Nat} (h : x.natAbs ≤ v) : slotN x < 2 * v + 3 := by unfold slotN; split <;> omega
/-- the value of a literal -/
def litV (val : List Int) (x : Int) : Int := if x < 0 then -(val.getD x.natAbs 0) else val.getD x.natAbs 0
/-- the values of a trail's variables -/
structure Vals (v : Nat) (val trail : List Int) : Prop where
  len : val.length = v + 1
  lits : ∀ x, x ∈ trail → x ≠ 0 ∧ x.natAbs ≤ v
  nd : trail.Nodup
  cs : ∀ x, x ∈ trail → -x ∉ trail
  pos : ∀ x : Int, x ≠ 0 → x.natAbs ≤ v → (litV val x = 1 ↔ x ∈ trail) ∧ (litV val x = -1 ↔ -x ∈ trail) ∧ (litV val x = 0 ↔ x ∉ trail ∧ -x ∉ trail)
theorem litV_neg (val : List Int) (x : Int) (h : x ≠ 0) : litV val (-x) = -(litV val x) := by
  unfold litV
  rw [Int.natAbs_neg]
  split <;> split <;> omega
theorem Vals.zero (v : Nat) : Vals v (List.replicate (v + 1) 0) [] :=
  ⟨by simp, fun x hx => by simp at hx, List.nodup_nil, fun x hx => by simp at hx, fun x h0 hx => by
    have : litV (List.replicate (v + 1) 0) x = 0 := by
      unfold litV
      have : (List.replicate (v + 1) (0 : Int)).getD x.natAbs 0 = 0 := by simp [List.getD, List.getElem?_replicate]; split <;> rfl
      rw [this]; split <;> rfl
    rw [this]; simp⟩
/-- the value that assume lays -/
def layV (val : List Int) (x : Int) : List Int := val.set x.natAbs (if 0 < x then 1 else -1)
theorem litV_lay {val : List Int} {x y : Int} (hx : x ≠ 0) (hy : y ≠ 0) (hl : x.natAbs < val.length) : litV (layV val x) y = if y = x then 1 else if y = -x then -1 else litV val y := by
  unfold litV layV
  by_cases h : y.natAbs = x.natAbs
  · have hv : (val.set x.natAbs (if 0 < x then 1 else -1)).getD y.natAbs 0 = if 0 < x then 1 else -1 := by
      rw [h]; simp [List.getD, hl]
    rw [hv]
    rcases (show y = x ∨ y = -x by omega) with rfl | rfl
    · simp only [if_true]; split <;> split <;> omega
    · rw [if_neg (show ¬ -x = x by omega), if_pos rfl]; split <;> split <;> omega
  · have hv : (val.set x.natAbs (if 0 < x then 1 else -1)).getD y.natAbs 0 = val.getD y.natAbs 0 := by
      simp [List.getD, Ne.symm h]
    rw [hv, if_neg (show ¬ y = x by rintro rfl; exact h rfl), if_neg (show ¬ y = -x by rintro rfl; exact h (by simp))]
theorem Vals.lay {v : Nat} {val trail : List Int} (h : Vals v val trail) {x : Int} (hx : x ≠ 0) (hv : x.natAbs ≤ v) (h0 : litV val x = 0) : Vals v (layV val x) (trail ++ [x]) := by
  have hn := (h.pos x hx hv).2.2.1 h0
  refine ⟨by simp [layV, h.len], fun y hy => ?_, ?_, fun y hy => ?_, fun y hy0 hyv => ?_⟩
  · rcases List.mem_append.1 hy with hy | hy
    · exact h.lits y hy
    · simp at hy; subst hy; exact ⟨hx, hv⟩
  · rw [List.nodup_append]
    exact ⟨h.nd, by simp, fun a ha b hb => by simp at hb; subst hb; rintro rfl; exact hn.1 ha⟩
  · intro hz
    rcases List.mem_append.1 hy with hy | hy <;> rcases List.mem_append.1 hz with hy2 | hy2
    · exact h.cs y hy hy2
    · simp at hy2; exact hn.2 (by rw [← hy2]; simpa using hy)
    · simp at hy; subst hy; exact hn.2 hy2
    · simp at hy hy2; omega
  · rw [litV_lay hx hy0 (by rw [h.len]; omega)]
    have hp := h.pos y hy0 hyv
    have hmx : ∀ z, z ∈ trail ++ [x] ↔ z ∈ trail ∨ z = x := by simp
    rw [hmx, hmx]
    by_cases h1 : y = x
    · subst h1
      rw [if_pos rfl]
      refine ⟨by simp, ?_, by simp⟩
      constructor
      · intro h; omega
      · rintro (h | h)
        · exact absurd h hn.2
        · omega
    · rw [if_neg h1]
      by_cases h2 : y = -x
      · subst h2
        rw [if_pos rfl]
        refine ⟨?_, by simp, ?_⟩
        · constructor
          · intro h; omega
          · rintro (h | h)
            · exact absurd h hn.2
            · exact absurd h h1
        · constructor
          · intro h; omega
          · rintro ⟨_, h⟩; simp at h
      · rw [if_neg h2]
        have e1 : ¬ -y = x := by omega
        simp only [h1, e1, or_false]
        exact hp
theorem Vals.small {v : Nat} {val trail : List Int} (h : Vals v val trail) {x : Int} (hx : x ≠ 0) (hv : x.natAbs ≤ v) : litV val x = 1 ∨ litV val x = -1 ∨ litV val x = 0 := by
  obtain ⟨h1, h2, h3⟩ := h.pos x hx hv
  by_cases a : x ∈ trail
  · exact .inl (h1.2 a)
  · by_cases b : -x ∈ trail
    · exact .inr (.inl (h2.2 b))
    · exact .inr (.inr (h3.2 ⟨a, b⟩))
end Go.Proofs.Ytcifiibpiooeiaa
