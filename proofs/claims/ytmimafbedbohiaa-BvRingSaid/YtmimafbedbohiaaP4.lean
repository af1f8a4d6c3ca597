import Derived.Test.YtmimafbedbohiaaP2
namespace Go.Proofs.Ytmimafbedbohiaa
set_option linter.unusedVariables false

theorem parts_num (x k : Nat) : x = x % 2 ^ (64 * k) + 2 ^ (64 * k) * word x k + 2 ^ (64 * (k + 1)) * (x / 2 ^ (64 * (k + 1))) := by
  have h := Nat.mod_add_div x (2 ^ (64 * (k + 1)))
  rw [mod_step] at h
  omega
theorem setW_mod (x k y : Nat) (hy : y < 2 ^ 64) : setW x k y % 2 ^ (64 * k) = x % 2 ^ (64 * k) := by
  apply eq_bits; intro j
  rw [mod_bit, mod_bit]
  by_cases hj : j < 64 * k
  · rw [bit_word, setW_word x k y _ hy, if_neg (by omega), ← bit_word]
  · simp [hj]
theorem setW_div (x k y : Nat) (hy : y < 2 ^ 64) : setW x k y / 2 ^ (64 * (k + 1)) = x / 2 ^ (64 * (k + 1)) := by
  apply eq_bits; intro j
  rw [Nat.testBit_div_two_pow, Nat.testBit_div_two_pow, bit_word, setW_word x k y _ hy, if_neg (by omega), ← bit_word]
theorem setW_num (x k y : Nat) (hy : y < 2 ^ 64) : setW x k y + 2 ^ (64 * k) * word x k = x + 2 ^ (64 * k) * y := by
  have h1 := parts_num (setW x k y) k
  have h2 := parts_num x k
  rw [setW_mod x k y hy, setW_div x k y hy, setW_word x k y k hy, if_pos rfl] at h1
  omega

theorem mul_inner {X Xi a B cy cy' W' i k : Nat} (hW : W' < 2 ^ 64) (h : X + 2 ^ (64 * (i + k)) * cy = Xi + a * (2 ^ (64 * i) * (B % 2 ^ (64 * k)))) (hs : W' + 2 ^ 64 * cy' = a * word B k + cy + word X (i + k)) :
    setW X (i + k) W' + 2 ^ (64 * (i + (k + 1))) * cy' = Xi + a * (2 ^ (64 * i) * (B % 2 ^ (64 * (k + 1)))) := by
  have h1 := setW_num X (i + k) W' hW
  have e1 : 2 ^ (64 * (i + (k + 1))) = 2 ^ (64 * (i + k)) * 2 ^ 64 := by rw [← Nat.add_assoc, pow_split]
  have e2 : 2 ^ (64 * (i + k)) = 2 ^ (64 * i) * 2 ^ (64 * k) := by rw [Nat.mul_add, Nat.pow_add]
  rw [mod_step, Nat.mul_add (2 ^ (64 * i)), Nat.mul_add a, ← Nat.add_assoc Xi, ← h, e1, ← Nat.mul_assoc (2 ^ (64 * i)), ← e2]
  have e3 : a * (2 ^ (64 * (i + k)) * word B k) = 2 ^ (64 * (i + k)) * (a * word B k) := by rw [Nat.mul_left_comm]
  rw [e3]
  generalize 2 ^ (64 * (i + k)) = p at *
  have h2 : p * (W' + 2 ^ 64 * cy') = p * (a * word B k + cy + word X (i + k)) := by rw [hs]
  simp only [Nat.mul_add] at h2
  rw [Nat.mul_assoc p]
  omega
theorem mul_outer {X Xi A B cy i m : Nat} (him : i < m) (hi : Xi % 2 ^ (64 * m) = A % 2 ^ (64 * i) * B % 2 ^ (64 * m)) (h : X + 2 ^ (64 * (i + (m - i))) * cy = Xi + word A i * (2 ^ (64 * i) * (B % 2 ^ (64 * (m - i))))) :
    X % 2 ^ (64 * m) = A % 2 ^ (64 * (i + 1)) * B % 2 ^ (64 * m) := by
  have e : i + (m - i) = m := by omega
  have e2 : 2 ^ (64 * m) = 2 ^ (64 * i) * 2 ^ (64 * (m - i)) := by rw [← Nat.pow_add]; congr 1; omega
  rw [e] at h
  have h1 : X % 2 ^ (64 * m) = (X + 2 ^ (64 * m) * cy) % 2 ^ (64 * m) := (Nat.add_mul_mod_self_left _ _ _).symm
  rw [h1, h]
  have e3 : 2 ^ (64 * i) * (B % 2 ^ (64 * (m - i))) = (2 ^ (64 * i) * B) % 2 ^ (64 * m) := by rw [e2, Nat.mul_mod_mul_left]
  rw [e3, Nat.add_mod, hi, ← Nat.add_mod, mod_step, Nat.add_mul, Nat.add_mod, Nat.mul_mod (word A i), Nat.mod_mod, ← Nat.mul_mod (word A i), ← Nat.add_mod]
  congr 2
  rw [← Nat.mul_assoc, Nat.mul_comm (word A i)]
end Go.Proofs.Ytmimafbedbohiaa
