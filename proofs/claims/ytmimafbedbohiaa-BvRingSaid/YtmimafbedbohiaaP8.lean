import Derived.Test.YtmimafbedbohiaaP2
namespace Go.Proofs.Ytmimafbedbohiaa
set_option linter.unusedVariables false

theorem ring_add (n X Y : Nat) : (X + Y + 0) % 2 ^ n = (Y + X + 0) % 2 ^ n := by rw [Nat.add_comm X]
theorem ring_mul (n X Y : Nat) : X * Y % 2 ^ n = Y * X % 2 ^ n := by rw [Nat.mul_comm]
theorem ring_back {n X Y : Nat} (hX : X < 2 ^ n) (hY : Y < 2 ^ n) : ((X + Y + 0) % 2 ^ n + notN n Y + 1) % 2 ^ n = X := by
  have h0 : 0 < 2 ^ n := Nat.pow_pos (by decide)
  unfold notN
  generalize 2 ^ n = N at *
  simp only [Nat.add_zero]
  by_cases h : X + Y < N
  · rw [Nat.mod_eq_of_lt h, show X + Y + (N - 1 - Y) + 1 = X + N by omega, Nat.add_mod_right, Nat.mod_eq_of_lt hX]
  · have e : (X + Y) % N = X + Y - N := by rw [Nat.mod_eq_sub_mod (by omega), Nat.mod_eq_of_lt (by omega)]
    rw [e, show X + Y - N + (N - 1 - Y) + 1 = X by omega, Nat.mod_eq_of_lt hX]
theorem ring_neg {n X Y : Nat} (hX : X < 2 ^ n) (hY : Y < 2 ^ n) : (X + negN n Y + 0) % 2 ^ n = (X + notN n Y + 1) % 2 ^ n := by
  have h0 : 0 < 2 ^ n := Nat.pow_pos (by decide)
  unfold notN negN
  generalize 2 ^ n = N at *
  rw [Nat.add_zero, Nat.add_mod_mod]
  congr 1; omega
theorem ring_assoc (n X Y Z : Nat) : ((X + Y + 0) % 2 ^ n + Z + 0) % 2 ^ n = (X + (Y + Z + 0) % 2 ^ n + 0) % 2 ^ n := by
  simp only [Nat.add_zero, Nat.mod_add_mod, Nat.add_mod_mod, Nat.add_assoc]
theorem ring_dist (n X Y Z : Nat) : (X + Y + 0) % 2 ^ n * Z % 2 ^ n = (X * Z % 2 ^ n + Y * Z % 2 ^ n + 0) % 2 ^ n := by
  simp only [Nat.add_zero, Nat.mod_add_mod, Nat.add_mod_mod]
  rw [Nat.mul_mod, Nat.mod_mod, ← Nat.mul_mod, Nat.add_mul]
end Go.Proofs.Ytmimafbedbohiaa
