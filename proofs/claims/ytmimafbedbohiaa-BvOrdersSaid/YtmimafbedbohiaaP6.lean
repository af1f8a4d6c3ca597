import Derived.Test.YtmimafbedbohiaaP5
import Derived.Test.YtmimafbedbohiaaA39
import Derived.Test.YtmimafbedbohiaaA16
namespace Go.Proofs.Ytmimafbedbohiaa
set_option linter.unusedVariables false

theorem xor_low {X k : Nat} (h : X < 2 ^ k) : X ^^^ 2 ^ k = X + 2 ^ k := by
  apply eq_bits; intro j
  rw [Nat.testBit_xor, Nat.testBit_two_pow, Nat.add_comm]
  rcases Nat.lt_trichotomy j k with hj | hj | hj
  · rw [Nat.testBit_two_pow_add_gt hj]
    have : ¬ k = j := by omega
    simp [this]
  · subst hj
    rw [Nat.testBit_two_pow_add_eq, bit_big h (Nat.le_refl _)]; simp
  · have h1 : 2 ^ k + X < 2 ^ j := Nat.lt_of_lt_of_le (by rw [Nat.pow_succ]; omega : 2 ^ k + X < 2 ^ (k + 1)) (Nat.pow_le_pow_right (by decide) hj)
    have : ¬ k = j := by omega
    rw [Nat.testBit_lt_two_pow h1, bit_big h (by omega)]; simp [this]
theorem xor_top {X k : Nat} (h : X < 2 ^ (k + 1)) : X ^^^ 2 ^ k = if 2 ^ k ≤ X then X - 2 ^ k else X + 2 ^ k := by
  by_cases hx : 2 ^ k ≤ X
  · rw [if_pos hx]
    rw [Nat.pow_succ] at h
    have hz : X - 2 ^ k < 2 ^ k := by omega
    have := xor_low hz
    rw [show X - 2 ^ k + 2 ^ k = X by omega] at this
    rw [← this, Nat.xor_assoc, Nat.xor_self, Nat.xor_zero, this]
  · rw [if_neg hx]; exact xor_low (by omega)
theorem slt_xor {n X Y : Nat} (hn : 0 < n) (hX : X < 2 ^ n) (hY : Y < 2 ^ n) : sltB n X Y = decide (X ^^^ 2 ^ (n - 1) < Y ^^^ 2 ^ (n - 1)) := by
  obtain ⟨k, rfl⟩ : ∃ k, n = k + 1 := ⟨n - 1, by omega⟩
  rw [Nat.add_sub_cancel, xor_top hX, xor_top hY]
  unfold sltB
  rw [top_eq (by omega) hX, top_eq (by omega) hY]
  rw [Nat.pow_succ] at *
  generalize 2 ^ k = h at *
  rw [Bool.eq_iff_iff]
  by_cases h1 : h ≤ X <;> by_cases h2 : h ≤ Y <;> simp [show (h * 2 ≤ 2 * X) ↔ h ≤ X by omega, show (h * 2 ≤ 2 * Y) ↔ h ≤ Y by omega, h1, h2] <;> omega
/-- the vector with the highest bit alone -/
theorem put_high {n : Nat} (hn : 0 < n) : ofB (putF 0 1 (n - 1) 1) n = 2 ^ (n - 1) := by
  apply eq_bits; intro j
  rw [testBit_ofB, Nat.testBit_two_pow]
  unfold putF
  by_cases h : j < n - 1
  · rw [if_pos h]; have : ¬ n - 1 = j := by omega
    simp [this]
  · rw [if_neg h]
    by_cases h2 : j < n - 1 + 1
    · obtain rfl : j = n - 1 := by omega
      rw [if_pos h2]; simp; omega
    · rw [if_neg h2]; have : ¬ n - 1 = j := by omega
      simp [this]
end Go.Proofs.Ytmimafbedbohiaa
