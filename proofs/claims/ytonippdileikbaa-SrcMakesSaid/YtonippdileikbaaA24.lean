import Derived.Test.YtonippdileikbaaA23
namespace Go.Proofs.Ytonippdileikbaa
set_option linter.unusedVariables false
open Go.RowKit

theorem lineOf_one {L : List Int} {t : Int} {k k' : Nat} (hs : ∀ a b, a < b → b < L.length → L.getD a 0 < L.getD b 0) (h : LineOf L t k) (h' : LineOf L t k') : k = k' := by
  have mono : ∀ a b, a ≤ b → b < L.length → L.getD a 0 ≤ L.getD b 0 := fun a b hab hb => by
    rcases Nat.lt_or_ge a b with h | h
    · exact Int.le_of_lt (hs a b h hb)
    · obtain rfl : a = b := by omega
      exact Int.le_refl _
  rcases Nat.lt_trichotomy k k' with e | e | e
  · have h1 := h.hi (by have := h'.lt; omega)
    have h2 := mono (k + 1) k' (by omega) h'.lt
    have h3 := h'.lo
    omega
  · exact e
  · have h1 := h'.hi (by have := h.lt; omega)
    have h2 := mono (k' + 1) k (by omega) h.lt
    have h3 := h.lo
    omega
theorem starts_facts (s : ByteArray) : (∀ i, i < (starts s).length → 0 ≤ (starts s).getD i 0 ∧ (starts s).getD i 0 ≤ s.size) ∧ (∀ i j, i < j → j < (starts s).length → (starts s).getD i 0 < (starts s).getD j 0) ∧ (starts s).getD 0 0 = 0 := stTo_facts _ _
theorem lineOf_start (s : ByteArray) (k : Nat) (h : k < (starts s).length) : LineOf (starts s) ((starts s).getD k 0) k :=
  ⟨h, Int.le_refl _, fun hk => (starts_facts s).2.1 k (k + 1) (by omega) hk⟩
theorem stTo_nl (l : List UInt8) : ∀ k i, i + 1 < (stTo l k).length → l.getD ((stTo l k).getD (i + 1) 0 - 1).toNat 0 = 10
  | 0, i, h => by simp [stTo] at h
  | k + 1, i, h => by
    have ih := stTo_nl l k
    rw [stTo_succ] at h ⊢
    split
    · rename_i h10
      rw [if_pos h10, List.length_append] at h
      rw [getD_snoc]
      split
      · rename_i h2; exact ih i h2
      · rw [if_pos (by simp at h; omega), show (((k + 1 : Nat) : Int) - 1).toNat = k by omega]; exact h10
    · rename_i h10
      rw [if_neg h10] at h
      exact ih i h
def endN (s : ByteArray) (k : Nat) : Nat := (endOf (starts s) s.size k).toNat
def begN (s : ByteArray) (k : Nat) : Nat := ((starts s).getD k 0).toNat
theorem endN_bd (s : ByteArray) (k : Nat) (h : k < (starts s).length) : begN s k ≤ endN s k ∧ endN s k ≤ s.size := by
  obtain ⟨h1, h2, h3⟩ := starts_facts s
  unfold begN endN endOf
  split
  · have := h1 k h; omega
  · have := h1 (k + 1) (by omega)
    have := h2 k (k + 1) (by omega) (by omega)
    omega
theorem begN_succ (s : ByteArray) (k : Nat) (h : k + 1 < (starts s).length) : begN s (k + 1) = endN s k + 1 ∧ s.data.toList.getD (endN s k) 0 = 10 := by
  obtain ⟨h1, h2, h3⟩ := starts_facts s
  have a := h1 k (by omega)
  have b := h2 k (k + 1) (by omega) h
  have c := stTo_nl s.data.toList s.size k h
  unfold begN endN endOf
  rw [if_neg (by omega)]
  exact ⟨by omega, c⟩
theorem ext_glue (s : ByteArray) (a b : Nat) (h1 : a ≤ b) (h2 : b ≤ s.size) : s.extract 0 a ++ s.extract a b = s.extract 0 b := by
  apply ByteArray.ext
  simp only [ByteArray.data_append, ByteArray.data_extract]
  apply Array.ext'
  simp only [Array.toList_append, Array.toList_extract, List.extract_eq_take_drop, List.drop_zero, Nat.sub_zero]
  rw [← List.take_add, show a + (b - a) = b by omega]
theorem ext_nl (s : ByteArray) (a : Nat) (h : a < s.size) (h10 : s.data.toList.getD a 0 = 10) : s.extract 0 a ++ ⟨#[10]⟩ = s.extract 0 (a + 1) := by
  rw [← ext_glue s a (a + 1) (by omega) (by omega)]
  congr 1
  apply ByteArray.ext
  apply Array.ext'
  simp only [ByteArray.data_extract, Array.toList_extract, List.extract_eq_take_drop]
  rw [show a + 1 - a = 1 by omega, List.drop_eq_getElem_cons (by simpa using h)]
  rw [List.getD, List.getElem?_eq_getElem (by simpa using h)] at h10
  simpa using h10.symm
/-- what is joined behind k lines -/
def joined (s : ByteArray) : Nat → ByteArray
  | 0 => ⟨#[]⟩
  | k + 1 => s.extract 0 (endN s k)
theorem joined_first (s : ByteArray) : joined s 0 ++ lineAt s 0 = joined s 1 := by
  have hb : begN s 0 = 0 := by unfold begN; rw [(starts_facts s).2.2]; rfl
  show _ ++ s.extract (begN s 0) (endN s 0) = s.extract 0 (endN s 0)
  rw [hb]
  apply ByteArray.ext
  simp [joined]
theorem joined_next (s : ByteArray) (k : Nat) (h : k + 1 < (starts s).length) : joined s (k + 1) ++ ⟨#[10]⟩ = s.extract 0 (begN s (k + 1)) ∧ joined s (k + 1) ++ ⟨#[10]⟩ ++ lineAt s (k + 1) = joined s (k + 2) := by
  obtain ⟨h1, h2⟩ := begN_succ s k h
  have hb := endN_bd s (k + 1) h
  have e : joined s (k + 1) ++ ⟨#[10]⟩ = s.extract 0 (begN s (k + 1)) := by
    rw [h1]
    exact ext_nl s (endN s k) (by omega) h2
  refine ⟨e, ?_⟩
  rw [e]
  exact ext_glue s _ _ hb.1 hb.2
theorem joined_end (s : ByteArray) : joined s (starts s).length = s := by
  have := starts_len s
  obtain ⟨n, hn⟩ : ∃ n, (starts s).length = n + 1 := ⟨(starts s).length - 1, by omega⟩
  rw [hn]
  show s.extract 0 (endN s n) = s
  have : endN s n = s.size := by unfold endN endOf; rw [if_pos hn.symm]; rfl
  rw [this]; simp
theorem size_ext0 (s : ByteArray) (a : Nat) (h : a ≤ s.size) : (s.extract 0 a).size = a := by rw [ByteArray.size_extract]; omega
theorem joined_size (s : ByteArray) (k : Nat) (h : k ≤ (starts s).length) : (joined s k).size ≤ s.size := by
  cases k with
  | zero => exact Nat.zero_le _
  | succ k => have := endN_bd s k (by omega); show (s.extract 0 (endN s k)).size ≤ _; rw [size_ext0 s _ this.2]; exact this.2
end Go.Proofs.Ytonippdileikbaa
