import Derived.Test.YtmimafbedbohiaaB7
import Derived.Test.YtmimafbedbohiaaA67
namespace Go.Proofs.Ytmimafbedbohiaa
open Go.RowKit

theorem list_bits (l : List Bool) {n A : Nat} (hA : A < 2 ^ n) (hl : l.length = n) (h : ∀ j, j < n → l.getD j false = A.testBit j) : valB l = A := by
  apply eq_bits; intro j
  rw [valB_bit]
  by_cases hj : j < n
  · exact h j hj
  · rw [bit_big hA (by omega), List.getD, List.getElem?_eq_none (by omega)]; rfl
theorem getD_app (l m : List Bool) (j : Nat) : (l ++ m).getD j false = if j < l.length then l.getD j false else m.getD (j - l.length) false := by
  simp only [List.getD, List.getElem?_append]; split <;> rfl
theorem splits_cat {n k A : Nat} (hA : A < 2 ^ n) (hk : k ≤ n) : valB (bitsOf k (ofB (sliceF A 0) k) ++ bitsOf (n - k) (ofB (sliceF A k) (n - k))) = A := by
  refine list_bits _ hA (by rw [List.length_append, bitsOf_length, bitsOf_length]; omega) fun j hj => ?_
  rw [getD_app, bitsOf_length]
  by_cases h : j < k
  · rw [if_pos h, bitsOf_getD _ _ _ h, testBit_ofB]; simp [sliceF, h]
  · rw [if_neg h, bitsOf_getD _ _ _ (by omega), testBit_ofB]
    have h1 : j - k < n - k := by omega
    have h2 : k + (j - k) = j := by omega
    simp [sliceF, h1, h2]
theorem splits_put {n k A : Nat} (hA : A < 2 ^ n) : ofB (putF A (ofB (sliceF A k) (n - k)) k (n - k)) n = A := by
  apply eq_bits; intro j
  rw [testBit_ofB]
  by_cases hj : j < n
  · by_cases h : j < k
    · simp [putF, hj, h]
    · have h1 : j < k + (n - k) := by omega
      have h2 : j - k < n - k := by omega
      have h3 : k + (j - k) = j := by omega
      simp [putF, hj, h, h1, testBit_ofB, sliceF, h2, h3]
  · rw [bit_big hA (by omega)]; simp [hj]
theorem splits_sum {n k A : Nat} (hA : A < 2 ^ n) (hk : k ≤ n) : shiftN 10 n (ofB (extF (ofB (sliceF A k) (n - k)) (n - k) false) n) k ||| ofB (extF (ofB (sliceF A 0) k) k false) n = A := by
  apply eq_bits; intro j
  rw [Nat.testBit_or]
  unfold shiftN
  rw [testBit_ofB, testBit_ofB]
  simp only [if_true, upF, extF, testBit_ofB, sliceF, Bool.and_false, Bool.false_and, Bool.or_false, Nat.zero_add]
  have hm : min k n = k := by omega
  rw [hm]
  by_cases hj : j < n
  · by_cases h : j < k
    · have h1 : ¬ k ≤ j := by omega
      simp [hj, h, h1]
    · have h1 : k ≤ j := by omega
      have h2 : j - k < n - k := by omega
      have h3 : k + (j - k) = j := by omega
      have h4 : j - k < n := by omega
      simp [hj, h, h1, h2, h3, h4]
  · simp [hj, bit_big hA (show n ≤ j by omega)]
theorem downs_two : downs 2 2 = [1, 0] := by decide
/-- two parts, the upper one first -/
def two (a b : Nat) (j : Nat) : Nat := if j = 0 then a else b
theorem cat_two (m a k b : Nat) (hm : 1 ≤ m) (hk : 1 ≤ k) (h : m + k ≤ 128) : (catS (two m k) (two a b) (downs 2 2)).isSome = true ∧ catL (two m k) (two a b) (downs 2 2) = bitsOf k b ++ bitsOf m a := by
  have e : catS (two m k) (two a b) (downs 2 2) = some (bitsOf k b ++ bitsOf m a) := by
    rw [downs_two]
    simp only [catS, List.foldl_cons, List.foldl_nil, two, Option.bind_some, List.length_nil, List.nil_append, Nat.zero_add, if_neg (show ¬ (1 : Nat) = 0 by decide), if_true]
    rw [if_pos ⟨hk, by omega⟩, Option.bind_some, if_pos ⟨hm, by rw [bitsOf_length]; omega⟩]
  refine ⟨by rw [e]; rfl, by unfold catL; rw [e]; rfl⟩
end Go.Proofs.Ytmimafbedbohiaa
