namespace Go.Proofs.Ytmimafbedbohiaa
set_option linter.unusedVariables false

/-- the number with the bits f i, i < n -/
def ofB (f : Nat → Bool) : Nat → Nat
  | 0 => 0
  | n + 1 => ofB f n + (if f n then 2 ^ n else 0)
theorem ofB_lt (f : Nat → Bool) : ∀ n, ofB f n < 2 ^ n
  | 0 => by simp [ofB]
  | n + 1 => by
    have := ofB_lt f n
    rw [ofB, Nat.pow_succ]
    split <;> omega
theorem testBit_ofB (f : Nat → Bool) : ∀ n j, (ofB f n).testBit j = (decide (j < n) && f j)
  | 0, j => by simp [ofB]
  | n + 1, j => by
    have hlt := ofB_lt f n
    have ih := testBit_ofB f n j
    rw [ofB]
    by_cases hf : f n = true
    · rw [if_pos hf, Nat.add_comm]
      rcases Nat.lt_trichotomy j n with h | h | h
      · rw [Nat.testBit_two_pow_add_gt h, ih]; simp [h, Nat.lt_succ_of_lt h]
      · subst h
        rw [Nat.testBit_two_pow_add_eq, ih]; simp [hf]
      · have : 2 ^ n + ofB f n < 2 ^ j := Nat.lt_of_lt_of_le (by rw [Nat.pow_succ] at *; omega : 2 ^ n + ofB f n < 2 ^ (n + 1)) (Nat.pow_le_pow_right (by omega) h)
        rw [Nat.testBit_lt_two_pow this]
        have h1 : ¬ j < n + 1 := by omega
        simp [h1]
    · rw [if_neg hf, Nat.add_zero, ih]
      have hf' : f n = false := by simpa using hf
      by_cases h : j < n
      · simp [h, Nat.lt_succ_of_lt h]
      · by_cases e : j = n
        · subst e; simp [hf']
        · have h1 : ¬ j < n + 1 := by omega
          simp [h, h1]
theorem eq_bits {x y : Nat} (h : ∀ j, x.testBit j = y.testBit j) : x = y := Nat.eq_of_testBit_eq h
theorem bit_big {x n j : Nat} (h : x < 2 ^ n) (hj : n ≤ j) : x.testBit j = false := Nat.testBit_lt_two_pow (Nat.lt_of_lt_of_le h (Nat.pow_le_pow_right (by omega) hj))
theorem lt_of_bits {x n : Nat} (h : ∀ j, n ≤ j → x.testBit j = false) : x < 2 ^ n := Nat.lt_pow_two_of_testBit x fun j hj => h j hj
theorem ofB_self {x n : Nat} (h : x < 2 ^ n) : ofB x.testBit n = x := by
  apply eq_bits; intro j
  rw [testBit_ofB]
  by_cases hj : j < n
  · simp [hj]
  · rw [bit_big h (show n ≤ j by omega)]; simp [hj]
theorem ofB_congr {f g : Nat → Bool} {n : Nat} (h : ∀ i, i < n → f i = g i) : ofB f n = ofB g n := by
  apply eq_bits; intro j
  rw [testBit_ofB, testBit_ofB]
  by_cases hj : j < n
  · simp [hj, h j hj]
  · simp [hj]

def bitsOf (n x : Nat) : List Bool := (List.range n).map x.testBit
theorem bitsOf_length (n x : Nat) : (bitsOf n x).length = n := by simp [bitsOf]
theorem bitsOf_getD (n x i : Nat) (h : i < n) : (bitsOf n x).getD i false = x.testBit i := by
  rw [bitsOf, List.getD, List.getElem?_map, List.getElem?_range h]; rfl
def valB (l : List Bool) : Nat := ofB (fun i => l.getD i false) l.length
theorem valB_lt (l : List Bool) : valB l < 2 ^ l.length := ofB_lt _ _
theorem valB_bit (l : List Bool) (j : Nat) : (valB l).testBit j = l.getD j false := by
  rw [valB, testBit_ofB]
  by_cases h : j < l.length
  · simp [h]
  · rw [List.getD, List.getElem?_eq_none (by omega)]; simp
theorem valB_bitsOf {n x : Nat} (h : x < 2 ^ n) : valB (bitsOf n x) = x := by
  apply eq_bits; intro j
  rw [valB_bit]
  by_cases hj : j < n
  · exact bitsOf_getD n x j hj
  · rw [List.getD, List.getElem?_eq_none (by rw [bitsOf_length]; omega), bit_big h (by omega)]; rfl
theorem list_ext {l k : List Bool} (h : l.length = k.length) (hb : ∀ i, i < l.length → l.getD i false = k.getD i false) : l = k := by
  apply List.ext_getElem h
  intro i h1 h2
  have := hb i h1
  simpa [List.getD, List.getElem?_eq_getElem h1, List.getElem?_eq_getElem h2] using this
theorem bitsOf_valB (l : List Bool) : bitsOf l.length (valB l) = l :=
  list_ext (bitsOf_length _ _) fun i hi => by rw [bitsOf_length] at hi; rw [bitsOf_getD _ _ _ hi, valB_bit]

/-- word i of a number -/
def word (x i : Nat) : Nat := x / 2 ^ (64 * i) % 2 ^ 64
theorem word_lt (x i : Nat) : word x i < 2 ^ 64 := Nat.mod_lt _ (by decide)
theorem word_bit (x i j : Nat) : (word x i).testBit j = (decide (j < 64) && x.testBit (64 * i + j)) := by
  rw [word, Nat.testBit_mod_two_pow, Nat.testBit_div_two_pow, Nat.add_comm]
theorem bit_word (x j : Nat) : x.testBit j = (word x (j / 64)).testBit (j % 64) := by
  rw [word_bit]
  have : j % 64 < 64 := Nat.mod_lt _ (by decide)
  rw [show 64 * (j / 64) + j % 64 = j by omega]; simp [this]
theorem words_ext {x y m : Nat} (hx : x < 2 ^ (64 * m)) (hy : y < 2 ^ (64 * m)) (h : ∀ i, i < m → word x i = word y i) : x = y := by
  apply eq_bits; intro j
  by_cases hj : j < 64 * m
  · rw [bit_word x, bit_word y, h (j / 64) (by omega)]
  · rw [bit_big hx (by omega), bit_big hy (by omega)]
theorem word_zero (i : Nat) : word 0 i = 0 := by simp [word]
/-- word k set to y -/
def setW (x k y : Nat) : Nat := x ^^^ ((word x k ^^^ y) <<< (64 * k))
theorem setW_word (x k y j : Nat) (hy : y < 2 ^ 64) : word (setW x k y) j = if j = k then y else word x j := by
  apply eq_bits; intro i
  rw [word_bit, setW, Nat.testBit_xor, Nat.testBit_shiftLeft]
  by_cases hi : i < 64
  · by_cases e : j = k
    · subst e
      have h1 : 64 * j + i - 64 * j = i := by omega
      simp [hi, h1, Nat.testBit_xor, word_bit]
    · rw [if_neg e, word_bit]
      rcases Nat.lt_or_ge j k with h | h
      · have h1 : ¬ 64 * k ≤ 64 * j + i := by omega
        simp [hi, h1]
      · have h2 : 64 ≤ 64 * j + i - 64 * k := by omega
        have h3 : ¬ (64 * j + i - 64 * k < 64) := by omega
        simp [hi, Nat.testBit_xor, word_bit, h3, bit_big hy h2]
  · have h0 : (if j = k then y else word x j).testBit i = false := by
      split
      · exact bit_big hy (by omega)
      · exact bit_big (word_lt x j) (by omega)
    rw [h0]; simp [hi]
theorem setW_lt {x k y m : Nat} (hx : x < 2 ^ (64 * m)) (hk : k < m) (hy : y < 2 ^ 64) : setW x k y < 2 ^ (64 * m) := by
  apply lt_of_bits; intro j hj
  rw [bit_word, setW_word x k y _ hy, if_neg (by omega), ← bit_word, bit_big hx hj]

/-- bit i set to b -/
def setB (x i : Nat) (b : Bool) : Nat := if b then x ||| 2 ^ i else x ^^^ (x &&& 2 ^ i)
theorem setB_bit (x i j : Nat) (b : Bool) : (setB x i b).testBit j = if j = i then b else x.testBit j := by
  unfold setB
  cases b
  · simp only [Bool.false_eq_true, if_false, Nat.testBit_xor, Nat.testBit_and, Nat.testBit_two_pow]
    by_cases e : j = i
    · subst e; simp
    · have : ¬ i = j := fun h => e h.symm
      simp [e, this]
  · simp only [if_true, Nat.testBit_or, Nat.testBit_two_pow]
    by_cases e : j = i
    · subst e; simp
    · have : ¬ i = j := fun h => e h.symm
      simp [e, this]
theorem setB_lt {x i n : Nat} (b : Bool) (hx : x < 2 ^ n) (hi : i < n) : setB x i b < 2 ^ n := by
  apply lt_of_bits; intro j hj
  rw [setB_bit, if_neg (by omega), bit_big hx hj]
theorem setB_word (x i k : Nat) (b : Bool) : word (setB x i b) k = if k = i / 64 then setB (word x k) (i % 64) b else word x k := by
  apply eq_bits; intro j
  rw [word_bit, setB_bit]
  by_cases hj : j < 64
  · by_cases e : k = i / 64
    · rw [if_pos e, setB_bit, word_bit]
      by_cases e2 : j = i % 64
      · rw [if_pos (by omega), if_pos e2]; simp [hj]
      · rw [if_neg (by omega), if_neg e2]
    · rw [if_neg e, word_bit, if_neg (by omega)]
  · simp only [hj, decide_false, Bool.false_and]
    split
    · rw [setB_bit, if_neg (by omega), word_bit]; simp [hj]
    · rw [word_bit]; simp [hj]
/-- as the program's two ways have it -/
theorem setB_or (x k : Nat) : x ||| 2 ^ k = setB x k true := by simp [setB]
theorem setB_andNot (x k : Nat) (hx : x < 2 ^ 64) (hk : k < 64) : x &&& (18446744073709551615 - 2 ^ k) = setB x k false := by
  apply eq_bits; intro j
  rw [setB_bit, Nat.testBit_and, show 18446744073709551615 - 2 ^ k = 2 ^ 64 - (2 ^ k + 1) by omega, Nat.testBit_two_pow_sub_succ (Nat.pow_lt_pow_right (by decide) hk), Nat.testBit_two_pow]
  by_cases e : j = k
  · subst e; simp
  · have : ¬ k = j := fun h => e h.symm
    by_cases hj : j < 64
    · simp [e, this, hj]
    · rw [bit_big hx (by omega)]; simp [e]
/-- the bits from n on cut off -/
theorem mod_bit (x n j : Nat) : (x % 2 ^ n).testBit j = (decide (j < n) && x.testBit j) := Nat.testBit_mod_two_pow x n j
theorem mod_word (x n k : Nat) : word (x % 2 ^ n) k = if k < n / 64 then word x k else if k = n / 64 then word x k % 2 ^ (n % 64) else 0 := by
  apply eq_bits; intro j
  rw [word_bit, mod_bit]
  by_cases hj : j < 64
  · split
    · rw [word_bit]; have : 64 * k + j < n := by omega
      simp [hj, this]
    · split
      · rename_i e
        rw [mod_bit, word_bit]
        by_cases h : j < n % 64
        · have : 64 * k + j < n := by omega
          simp [hj, h, this]
        · have : ¬ 64 * k + j < n := by omega
          simp [hj, h, this]
      · have : ¬ 64 * k + j < n := by omega
        simp [hj, this]
  · simp only [hj, decide_false, Bool.false_and]
    split
    · rw [bit_big (word_lt x k) (by omega)]
    · split
      · rw [mod_bit, bit_big (word_lt x k) (by omega)]; simp
      · simp
end Go.Proofs.Ytmimafbedbohiaa
