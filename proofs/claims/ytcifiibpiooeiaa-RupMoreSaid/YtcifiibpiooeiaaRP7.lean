import Derived.Test.YtcifiibpiooeiaaR14
namespace Go.Proofs.Ytcifiibpiooeiaa
set_option linter.unusedVariables false

/-! ## awake, plainly -/
def awC : List (List Int) := [[1, 2], [1, -2], [-1, 2], [-1, -2]]
theorem aw_1 : addC 2 [] [1, 2] = ([[1, 2]], 0) := by decide +kernel
theorem aw_2 : addC 2 [[1, 2]] [1, -2] = ([[1, 2], [1, -2]], 0) := by decide +kernel
theorem aw_3 : addC 2 [[1, 2], [1, -2]] [-1, 2] = ([[1, 2], [1, -2], [-1, 2]], 0) := by decide +kernel
theorem aw_4 : addC 2 [[1, 2], [1, -2], [-1, 2]] [-1, -2] = (awC, 0) := by decide +kernel
theorem aw_in {l : List Int} (h : l ∈ awC) : SetOf awC l := ⟨l, h, fun _ => Iff.rfl⟩
theorem der_two {c : List Int → Prop} {A : Int → Prop} {x y : Int} (hc : c [x, y]) (h : Der c A (-x)) : Der c A y :=
  .unit hc (by simp) fun z hz hne => by
    rcases List.mem_cons.1 hz with e | e
    · rw [e]; exact h
    · exact absurd (List.mem_singleton.1 e) hne
theorem aw_f1 {c : List Int → Prop} (hc : ∀ l, SetOf awC l → c l) : Fails c (fun x => -x ∈ [(1 : Int)]) := by
  have h1 : Der c (fun x => -x ∈ [(1 : Int)]) (-1) := .asm (by simp)
  exact .inr ⟨2, der_two (x := 1) (hc _ (aw_in (by simp [awC]))) h1, der_two (x := 1) (hc _ (aw_in (by simp [awC]))) h1⟩
theorem aw_f2 {c : List Int → Prop} {A : Int → Prop} (hc : ∀ l, SetOf awC l → c l) (h1 : c [1]) : Fails c A := by
  have h : Der c A 1 := .unit h1 (by simp) fun z hz hne => absurd (by simpa using hz) hne
  have h' : Der c A (-(-1)) := h
  exact .inr ⟨2, der_two (x := -1) (hc _ (aw_in (by simp [awC]))) h', der_two (x := -1) (hc _ (aw_in (by simp [awC]))) h'⟩
theorem aw_f3 {c : List Int → Prop} {A : Int → Prop} (hc : ∀ l, c l → SetOf awC l) (hA : ∀ x, ¬ A x) : ¬ Fails c A := by
  have two : ∀ l, c l → ∀ x, ∃ y, y ∈ l ∧ y ≠ x := fun l hl x => by
    obtain ⟨l', hl', hm⟩ := hc l hl
    simp only [awC, List.mem_cons, List.not_mem_nil, or_false] at hl'
    rcases hl' with rfl | rfl | rfl | rfl
    · by_cases e : x = 1
      · exact ⟨2, (hm 2).1 (by simp), by omega⟩
      · exact ⟨1, (hm 1).1 (by simp), fun h => e h.symm⟩
    · by_cases e : x = 1
      · exact ⟨-2, (hm (-2)).1 (by simp), by omega⟩
      · exact ⟨1, (hm 1).1 (by simp), fun h => e h.symm⟩
    · by_cases e : x = -1
      · exact ⟨2, (hm 2).1 (by simp), by omega⟩
      · exact ⟨-1, (hm (-1)).1 (by simp), fun h => e h.symm⟩
    · by_cases e : x = -1
      · exact ⟨-2, (hm (-2)).1 (by simp), by omega⟩
      · exact ⟨-1, (hm (-1)).1 (by simp), fun h => e h.symm⟩
  refine closed_ok (T := fun _ => False) (fun x hx => hA x hx) (fun l x hl hx hall => ?_) (fun _ h => h.elim) (fun l hl => ?_)
  · obtain ⟨y, hy, hne⟩ := two l hl x
    exact hall y hy hne
  · obtain ⟨y, hy, _⟩ := two l hl 0
    exact ⟨y, hy, fun h => h⟩
theorem aw_chk1 {n c : Nat} (h : Chk awC 2 [[1], []] n c) : n = 0 ∧ c = 0 := by
  have l0 : Line awC 2 [[1], []] 0 := ⟨by decide, aw_f1 fun l h => .inl h⟩
  have l1 : Line awC 2 [[1], []] 1 := ⟨by decide, aw_f2 (fun l h => .inl h) (.inr ⟨0, by omega, fun x => Iff.rfl⟩)⟩
  rcases h with ⟨i, hi, rfl, hg, hb⟩ | ⟨_, hb⟩
  · have hl : Line awC 2 [[1], []] n := by
      have : n < 2 := hi
      rcases (show n = 0 ∨ n = 1 by omega) with rfl | rfl
      · exact l0
      · exact l1
    rcases hb with ⟨hb, _⟩ | ⟨_, hb, _⟩
    · rw [hl.1] at hb; cases hb
    · exact absurd hl.2 hb
  · rcases hb with ⟨hb, _⟩ | ⟨_, _, h1, h2⟩
    · simp at hb
    · exact ⟨h1, h2⟩
theorem aw_chk2 {n c : Nat} (h : Chk awC 2 [[]] n c) : n = 0 ∧ c = 20 := by
  have hn : ¬ Fails (CumS awC [[]] 0) (fun x => -x ∈ ([[]] : List (List Int)).getD 0 []) := aw_f3 (fun l h => h.elim (fun h => h) (fun ⟨k, hk, _⟩ => absurd hk (Nat.not_lt_zero _))) (fun x hx => by simp at hx)
  rcases h with ⟨i, hi, rfl, hg, hb⟩ | ⟨hg, _⟩
  · have hi1 : n < 1 := hi
    have : n = 0 := by omega
    subst this
    rcases hb with ⟨hb, _⟩ | ⟨_, _, hb⟩
    · simp at hb
    · exact ⟨rfl, hb⟩
  · exact absurd (hg 0 (by simp)).2 hn
end Go.Proofs.Ytcifiibpiooeiaa
