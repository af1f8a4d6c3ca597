import Derived.Test.YtmimafbedbohiaaP1
namespace Go.Proofs.Ytmimafbedbohiaa
set_option linter.unusedVariables false

theorem pow_dvd {n m : Nat} (h : n ≤ m) : 2 ^ n ∣ 2 ^ m := Nat.pow_dvd_pow 2 h
theorem word_of_mod (S m i : Nat) (h : i < m) : word (S % 2 ^ (64 * m)) i = word S i := by
  rw [mod_word, if_pos (by omega)]
theorem cut_of_words {X S n m : Nat} (hn : n ≤ 64 * m) (h : ∀ i, i < m → word X i = word S i) : X % 2 ^ n = S % 2 ^ n := by
  apply eq_bits; intro j
  rw [mod_bit, mod_bit]
  by_cases hj : j < n
  · rw [bit_word X, bit_word S, h (j / 64) (by omega)]
  · simp [hj]

/-- the carry into word k -/
def carryTo (a b c k : Nat) : Nat := (a % 2 ^ (64 * k) + b % 2 ^ (64 * k) + c) / 2 ^ (64 * k)
theorem carry_zero (a b c : Nat) : carryTo a b c 0 = c := by simp [carryTo, Nat.mod_one]
theorem carry_le (a b c k : Nat) (hc : c ≤ 1) : carryTo a b c k ≤ 1 := by
  have hp : 0 < 2 ^ (64 * k) := Nat.pow_pos (by decide)
  have h1 := Nat.mod_lt a hp
  have h2 := Nat.mod_lt b hp
  apply Nat.le_of_lt_succ
  unfold carryTo
  rw [Nat.div_lt_iff_lt_mul hp]; omega
theorem pow_split (k : Nat) : 2 ^ (64 * (k + 1)) = 2 ^ (64 * k) * 2 ^ 64 := by rw [Nat.mul_add, Nat.mul_one, Nat.pow_add]
theorem mod_step (a k : Nat) : a % 2 ^ (64 * (k + 1)) = a % 2 ^ (64 * k) + 2 ^ (64 * k) * word a k := by
  rw [pow_split, Nat.mod_mul]; rfl
theorem carry_step (a b c k : Nat) : (word a k + word b k + carryTo a b c k) % 2 ^ 64 = word (a + b + c) k ∧ (word a k + word b k + carryTo a b c k) / 2 ^ 64 = carryTo a b c (k + 1) := by
  have hp : 0 < 2 ^ (64 * k) := Nat.pow_pos (by decide)
  constructor
  · have ha := Nat.mod_add_div a (2 ^ (64 * k))
    have hb := Nat.mod_add_div b (2 ^ (64 * k))
    have : (a + b + c) / 2 ^ (64 * k) = carryTo a b c k + a / 2 ^ (64 * k) + b / 2 ^ (64 * k) := by
      have e : a + b + c = (a % 2 ^ (64 * k) + b % 2 ^ (64 * k) + c) + 2 ^ (64 * k) * (a / 2 ^ (64 * k) + b / 2 ^ (64 * k)) := by
        rw [Nat.mul_add]; omega
      rw [e, Nat.add_mul_div_left _ _ hp, carryTo]; omega
    unfold word
    rw [this]; omega
  · rw [show carryTo a b c (k + 1) = (a % 2 ^ (64 * (k + 1)) + b % 2 ^ (64 * (k + 1)) + c) / 2 ^ (64 * (k + 1)) from rfl, mod_step, mod_step, pow_split, ← Nat.div_div_eq_div_mul]
    have e : a % 2 ^ (64 * k) + 2 ^ (64 * k) * word a k + (b % 2 ^ (64 * k) + 2 ^ (64 * k) * word b k) + c = (a % 2 ^ (64 * k) + b % 2 ^ (64 * k) + c) + 2 ^ (64 * k) * (word a k + word b k) := by
      rw [Nat.mul_add]; omega
    rw [e, Nat.add_mul_div_left _ _ hp, carryTo]
    congr 1; omega

theorem word_not (a m i : Nat) (ha : a < 2 ^ (64 * m)) (hi : i < m) : word (2 ^ (64 * m) - 1 - a) i = 18446744073709551615 - word a i := by
  apply eq_bits; intro j
  have h1 : 2 ^ (64 * m) - 1 - a = 2 ^ (64 * m) - (a + 1) := by omega
  have h2 : 18446744073709551615 - word a i = 2 ^ 64 - (word a i + 1) := by omega
  rw [h2, Nat.testBit_two_pow_sub_succ (word_lt a i), word_bit, h1, Nat.testBit_two_pow_sub_succ ha, word_bit]
  by_cases hj : j < 64
  · have : 64 * i + j < 64 * m := by omega
    simp [hj, this]
  · simp [hj]
/-- all bits turned -/
def notN (n a : Nat) : Nat := 2 ^ n - 1 - a
theorem notN_lt (n a : Nat) : notN n a < 2 ^ n := by have : 0 < 2 ^ n := Nat.pow_pos (by decide); unfold notN; omega
theorem notN_bit {n a : Nat} (ha : a < 2 ^ n) (j : Nat) : (notN n a).testBit j = (decide (j < n) && !a.testBit j) := by
  rw [notN, show 2 ^ n - 1 - a = 2 ^ n - (a + 1) by omega, Nat.testBit_two_pow_sub_succ ha]
theorem not_cut {a n m : Nat} (ha : a < 2 ^ n) (hn : n ≤ 64 * m) : (2 ^ (64 * m) - 1 - a) % 2 ^ n = notN n a := by
  have ha' : a < 2 ^ (64 * m) := Nat.lt_of_lt_of_le ha (Nat.pow_le_pow_right (by decide) hn)
  apply eq_bits; intro j
  rw [mod_bit, notN_bit ha, show 2 ^ (64 * m) - 1 - a = 2 ^ (64 * m) - (a + 1) by omega, Nat.testBit_two_pow_sub_succ ha']
  by_cases hj : j < n
  · have : j < 64 * m := by omega
    simp [hj, this]
  · simp [hj]
/-- 0 less it -/
def negN (n a : Nat) : Nat := (2 ^ n - a) % 2 ^ n
theorem negN_eq {n a : Nat} (ha : a < 2 ^ n) : (notN n a + 0 + 1) % 2 ^ n = negN n a := by
  unfold notN negN; congr 1; omega
theorem negN_lt (n a : Nat) : negN n a < 2 ^ n := Nat.mod_lt _ (Nat.pow_pos (by decide))

theorem word_and (a b i : Nat) : word (a &&& b) i = word a i &&& word b i := by
  apply eq_bits; intro j; simp only [word_bit, Nat.testBit_and]; cases decide (j < 64) <;> simp
theorem word_or (a b i : Nat) : word (a ||| b) i = word a i ||| word b i := by
  apply eq_bits; intro j; simp only [word_bit, Nat.testBit_or]; cases decide (j < 64) <;> simp
theorem word_xor (a b i : Nat) : word (a ^^^ b) i = word a i ^^^ word b i := by
  apply eq_bits; intro j; simp only [word_bit, Nat.testBit_xor]; cases decide (j < 64) <;> simp

theorem div_word (a i : Nat) : a / 2 ^ (64 * i) = a / 2 ^ (64 * (i + 1)) * 2 ^ 64 + word a i := by
  rw [pow_split, ← Nat.div_div_eq_div_mul, word]
  generalize a / 2 ^ (64 * i) = q
  omega
theorem above_eq {a b m : Nat} (ha : a < 2 ^ (64 * m)) (hb : b < 2 ^ (64 * m)) (i : Nat) (h : ∀ j, i ≤ j → j < m → word a j = word b j) : a / 2 ^ (64 * i) = b / 2 ^ (64 * i) := by
  apply eq_bits; intro j
  rw [Nat.testBit_div_two_pow, Nat.testBit_div_two_pow]
  by_cases hj : j + 64 * i < 64 * m
  · rw [bit_word a, bit_word b, h _ (by omega) (by omega)]
  · rw [bit_big ha (by omega), bit_big hb (by omega)]
theorem less_words {a b m : Nat} (ha : a < 2 ^ (64 * m)) (hb : b < 2 ^ (64 * m)) (i : Nat) (h : ∀ j, i < j → j < m → word a j = word b j) (hne : word a i ≠ word b i) : a < b ↔ word a i < word b i := by
  have hH := above_eq ha hb (i + 1) (fun j h1 h2 => h j (by omega) h2)
  have h1 := div_word a i
  have h2 := div_word b i
  rw [hH] at h1
  have hp : 0 < 2 ^ (64 * i) := Nat.pow_pos (by decide)
  constructor
  · intro hlt
    have := Nat.div_le_div_right (c := 2 ^ (64 * i)) (Nat.le_of_lt hlt)
    omega
  · intro hlt
    have h3 : a / 2 ^ (64 * i) < b / 2 ^ (64 * i) := by omega
    rcases Nat.lt_or_ge a b with h | h
    · exact h
    · have := Nat.div_le_div_right (c := 2 ^ (64 * i)) h; omega

theorem mul_step (A B C W : Nat) (hA : A < 2 ^ 64) (hB : B < 2 ^ 64) (hC : C < 2 ^ 64) (hW : W < 2 ^ 64) :
    (W + (A * B % 2 ^ 64 + C) % 2 ^ 64) % 2 ^ 64 = (A * B + C + W) % 2 ^ 64 ∧
    A * B / 2 ^ 64 + (A * B % 2 ^ 64 + C) / 2 ^ 64 + (W + (A * B % 2 ^ 64 + C) % 2 ^ 64) / 2 ^ 64 = (A * B + C + W) / 2 ^ 64 ∧ (A * B + C + W) / 2 ^ 64 < 2 ^ 64 := by
  have hp : A * B ≤ (2 ^ 64 - 1) * (2 ^ 64 - 1) := Nat.mul_le_mul (by omega) (by omega)
  generalize A * B = p at *
  have hp' : p ≤ 340282366920938463426481119284349108225 := hp
  refine ⟨by omega, by omega, by omega⟩
end Go.Proofs.Ytmimafbedbohiaa
