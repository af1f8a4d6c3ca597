import Derived.Test.YtmimafbedbohiaaA14
namespace Go.Proofs.Ytmimafbedbohiaa
set_option linter.unusedVariables false

theorem up_one (R n : Nat) : ofB (upF R 1) n = 2 * R % 2 ^ n := by
  apply eq_bits; intro j
  rw [testBit_ofB, mod_bit, show 2 * R = R * 2 ^ 1 by omega, Nat.testBit_mul_two_pow]
  unfold upF
  congr 2
theorem set_zero (x : Nat) (b : Bool) (hx : x % 2 = 0) : setB x 0 b = x + (if b then 1 else 0) := by
  have h0 : x.testBit 0 = false := by rw [Nat.testBit_zero]; simp [hx]
  cases b
  · apply eq_bits; intro j
    rw [setB_bit]
    by_cases e : j = 0
    · subst e; simp [h0]
    · simp [e]
  · have := Nat.two_pow_add_eq_or_of_lt (i := 1) (b := 1) (by decide) (x / 2)
    rw [← setB_or]
    have e : 2 ^ 1 * (x / 2) = x := by omega
    rw [e] at this
    simpa using this.symm
theorem set_high (h i : Nat) : setB (h * 2 ^ (i + 1)) i true = h * 2 ^ (i + 1) + 2 ^ i := by
  have := Nat.two_pow_add_eq_or_of_lt (i := i + 1) (b := 2 ^ i) (Nat.pow_lt_pow_right (by decide) (Nat.lt_succ_self i)) h
  rw [← setB_or, Nat.mul_comm h]; exact this.symm
theorem top_eq {n R : Nat} (hn : 0 < n) (hR : R < 2 ^ n) : topB n R = decide (2 ^ n ≤ 2 * R) := by
  unfold topB bitI
  rw [decide_eq_true (by omega), Bool.true_and, show ((n : Int) - 1).toNat = n - 1 by omega, Nat.testBit_eq_decide_div_mod_eq]
  obtain ⟨m, rfl⟩ : ∃ m, n = m + 1 := ⟨n - 1, by omega⟩
  rw [Nat.pow_succ] at *
  simp only [Nat.add_sub_cancel]
  have hp : 0 < 2 ^ m := Nat.pow_pos (by decide)
  have h1 : R / 2 ^ m < 2 := by rw [Nat.div_lt_iff_lt_mul hp]; omega
  congr 1
  apply propext
  have h2 : (R / 2 ^ m % 2 = 1) ↔ 1 ≤ R / 2 ^ m := by generalize R / 2 ^ m = q at h1 ⊢; omega
  rw [h2, Nat.le_div_iff_mul_le hp]
  omega

/-- after the bits from k on: the rest is R, the quotient's bits Q -/
def SP (A B k Q R : Nat) : Prop := R = A / 2 ^ k % B ∧ Q = A / 2 ^ k / B * 2 ^ k
theorem sp_start {A B n : Nat} (hA : A < 2 ^ n) : SP A B n 0 0 := by
  unfold SP; rw [Nat.div_eq_of_lt hA]; simp
theorem sp_end {A B Q R : Nat} (h : SP A B 0 Q R) : Q = A / B ∧ R = A % B := by
  unfold SP at h; simp at h; exact ⟨h.2, h.1⟩
theorem sp_R2 {R n a : Nat} {b : Bool} (hn : 0 < n) : setB (ofB (upF R 1) n) 0 b = 2 * R % 2 ^ n + (if b then 1 else 0) := by
  rw [up_one]
  refine set_zero _ _ ?_
  obtain ⟨m, rfl⟩ : ∃ m, n = m + 1 := ⟨n - 1, by omega⟩
  rw [Nat.pow_succ, Nat.mul_comm (2 ^ m) 2, Nat.mul_mod_mul_left]; omega
theorem sp_step {A B n i Q R : Nat} (hn : 0 < n) (hB : 0 < B) (hBn : B < 2 ^ n) (h : SP A B (i + 1) Q R) :
    ((topB n R || !(decide (setB (ofB (upF R 1) n) 0 (A.testBit i) < B))) = true → SP A B i (setB Q i true) ((setB (ofB (upF R 1) n) 0 (A.testBit i) + notN n B + 1) % 2 ^ n)) ∧
    ((topB n R || !(decide (setB (ofB (upF R 1) n) 0 (A.testBit i) < B))) = false → SP A B i Q (setB (ofB (upF R 1) n) 0 (A.testBit i))) := by
  obtain ⟨hR, hQ⟩ := h
  have hRB : R < B := by rw [hR]; exact Nat.mod_lt _ hB
  have hdm := Nat.div_add_mod (A / 2 ^ (i + 1)) B
  rw [← hR] at hdm
  have hA : A / 2 ^ i = 2 * (A / 2 ^ (i + 1)) + (if A.testBit i then 1 else 0) := by
    have h1 : A / 2 ^ (i + 1) = A / 2 ^ i / 2 := by rw [Nat.pow_succ, Nat.div_div_eq_div_mul]
    rw [h1, Nat.testBit_eq_decide_div_mod_eq]
    generalize A / 2 ^ i = q
    simp only [decide_eq_true_eq]
    split <;> omega
  rw [sp_R2 (a := 0) hn, top_eq hn (by omega)]
  generalize hh : A / 2 ^ (i + 1) / B = hq at *
  generalize A / 2 ^ (i + 1) = H at *
  generalize hb : (if A.testBit i = true then 1 else 0) = b at *
  have hb2 : b ≤ 1 := by rw [← hb]; split <;> omega
  have hpar : ∃ m, 2 ^ n = 2 * m := by
    obtain ⟨m, rfl⟩ : ∃ m, n = m + 1 := ⟨n - 1, by omega⟩
    exact ⟨2 ^ m, by rw [Nat.pow_succ]; omega⟩
  obtain ⟨m, hm⟩ := hpar
  unfold notN SP
  have hmod : 2 * R % 2 ^ n = if 2 ^ n ≤ 2 * R then 2 * R - 2 ^ n else 2 * R := by
    split
    · rw [Nat.mod_eq_sub_mod (by omega), Nat.mod_eq_of_lt (by omega)]
    · exact Nat.mod_eq_of_lt (by omega)
  rw [hmod]
  have key : A / 2 ^ i = B * (2 * hq) + (2 * R + b) := by
    rw [hA, ← hdm]; rw [Nat.mul_left_comm B 2]; omega
  constructor
  · intro hc
    have hge : B ≤ 2 * R + b := by
      simp only [Bool.or_eq_true, decide_eq_true_eq, Bool.not_eq_true', decide_eq_false_iff_not, Nat.not_lt] at hc
      rcases hc with h | h
      · omega
      · split at h <;> omega
    have key2 : A / 2 ^ i = B * (2 * hq + 1) + (2 * R + b - B) := by rw [key, Nat.mul_add B (2 * hq) 1]; omega
    have e1 : A / 2 ^ i % B = 2 * R + b - B := by rw [key2, Nat.mul_add_mod, Nat.mod_eq_of_lt (by omega)]
    have e2 : A / 2 ^ i / B = 2 * hq + 1 := by rw [key2, Nat.mul_add_div hB, Nat.div_eq_of_lt (by omega)]
    rw [e1, e2, hQ, set_high]
    refine ⟨?_, ?_⟩
    · split
      · rw [show 2 * R - 2 ^ n + b + (2 ^ n - 1 - B) + 1 = 2 * R + b - B by omega, Nat.mod_eq_of_lt (by omega)]
      · rw [show 2 * R + b + (2 ^ n - 1 - B) + 1 = 2 * R + b - B + 2 ^ n by omega, Nat.add_mod_right, Nat.mod_eq_of_lt (by omega)]
    · rw [Nat.pow_succ, Nat.add_mul, Nat.one_mul, Nat.mul_comm (2 ^ i) 2, ← Nat.mul_assoc, Nat.mul_comm hq 2]
  · intro hc
    simp only [Bool.or_eq_false_iff, decide_eq_false_iff_not, Bool.not_eq_false', decide_eq_true_eq, Nat.not_le] at hc
    obtain ⟨hc1, hc2⟩ := hc
    rw [if_neg (by omega)] at hc2 ⊢
    have e1 : A / 2 ^ i % B = 2 * R + b := by rw [key, Nat.mul_add_mod, Nat.mod_eq_of_lt (by omega)]
    have e2 : A / 2 ^ i / B = 2 * hq := by rw [key, Nat.mul_add_div hB, Nat.div_eq_of_lt (by omega)]; omega
    rw [e1, e2, hQ]
    exact ⟨rfl, by rw [Nat.pow_succ, Nat.mul_comm (2 ^ i) 2, ← Nat.mul_assoc, Nat.mul_comm hq 2]⟩
end Go.Proofs.Ytmimafbedbohiaa
