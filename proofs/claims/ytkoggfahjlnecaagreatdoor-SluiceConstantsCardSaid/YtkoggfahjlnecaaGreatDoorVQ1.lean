
import Derived.Laws.CopyOwn
namespace Go.Proofs.YtkoggfahjlnecaaGreatDoor
set_option linter.unusedVariables false
/-- the number with the bits f i, i < n -/
def ofB (f : Nat → Bool) : Nat → Nat
  | 0 => 0
  | n + 1 => ofB f n + (if f n then 2 ^ n else 0)
theorem ofB_lt (f : Nat → Bool) : ∀ n, ofB f n < 2 ^ n
  | 0 => by simp [ofB]
  | n + 1 => by
    have := ofB_lt f n
    rw [ofB, Nat.pow_succ]
    split <;> omega
theorem testBit_ofB (f : Nat → Bool) : ∀ n j, (ofB f n).testBit j = (decide (j < n) && f j)
  | 0, j => by simp [ofB]
  | n + 1, j => by
    have hlt := ofB_lt f n
    have ih := testBit_ofB f n j
    rw [ofB]
    by_cases hf : f n = true
    · rw [if_pos hf, Nat.add_comm]
      rcases Nat.lt_trichotomy j n with h | h | h
      · rw [Nat.testBit_two_pow_add_gt h, ih]; simp [h, Nat.lt_succ_of_lt h]
      · subst h
        rw [Nat.testBit_two_pow_add_eq, ih]; simp [hf]
      · have : 2 ^ n + ofB f n < 2 ^ j := Nat.lt_of_lt_of_le (by rw [Nat.pow_succ] at *; omega : 2 ^ n + ofB f n < 2 ^ (n + 1)) (Nat.pow_le_pow_right (by omega) h)
        rw [Nat.testBit_lt_two_pow this]
        have h1 : ¬ j < n + 1 := by omega
        simp [h1]
    · rw [if_neg hf, Nat.add_zero, ih]
      have hf' : f n = false := by simpa using hf
      by_cases h : j < n
      · simp [h, Nat.lt_succ_of_lt h]
      · by_cases e : j = n
        · subst e; simp [hf']
        · have h1 : ¬ j < n + 1 := by omega
          simp [h, h1]
theorem eq_bits {x y : Nat} (h : ∀ j, x.testBit j = y.testBit j) : x = y := Nat.eq_of_testBit_eq h
theorem bit_big {x n j : Nat} (h : x < 2 ^ n) (hj : n ≤ j) : x.testBit j = false := Nat.testBit_lt_two_pow (Nat.lt_of_lt_of_le h (Nat.pow_le_pow_right (by omega) hj))
theorem lt_of_bits {x n : Nat} (h : ∀ j, n ≤ j → x.testBit j = false) : x < 2 ^ n := Nat.lt_pow_two_of_testBit x fun j hj => h j hj
theorem ofB_self {x n : Nat} (h : x < 2 ^ n) : ofB x.testBit n = x := by
  apply eq_bits; intro j
  rw [testBit_ofB]
  by_cases hj : j < n
  · simp [hj]
  · rw [bit_big h (show n ≤ j by omega)]; simp [hj]
theorem ofB_congr {f g : Nat → Bool} {n : Nat} (h : ∀ i, i < n → f i = g i) : ofB f n = ofB g n := by
  apply eq_bits; intro j
  rw [testBit_ofB, testBit_ofB]
  by_cases hj : j < n
  · simp [hj, h j hj]
  · simp [hj]
def bitsOf (n x : Nat) : List Bool := (List.range n).map x.testBit
theorem bitsOf_length (n x : Nat) : (bitsOf n x).length = n := by simp [bitsOf]
theorem bitsOf_getD (n x i : Nat) (h : i < n) : (bitsOf n x).getD i false = x.testBit i := by
  rw [bitsOf, List.getD, List.getElem?_map, List.getElem?_range h]; rfl
def valB (l : List Bool) : Nat := ofB (fun i => l.getD i false) l.length
theorem valB_lt (l : List Bool) : valB l < 2 ^ l.length := ofB_lt _ _
theorem valB_bit (l : List Bool) (j : Nat) : (valB l).testBit j = l.getD j false := by
  rw [valB, testBit_ofB]
  by_cases h : j < l.length
  · simp [h]
  · rw [List.getD, List.getElem?_eq_none (by omega)]; simp
theorem valB_bitsOf {n x : Nat} (h : x < 2 ^ n) : valB (bitsOf n x) = x := by
  apply eq_bits; intro j
  rw [valB_bit]
  by_cases hj : j < n
  · exact bitsOf_getD n x j hj
  · rw [List.getD, List.getElem?_eq_none (by rw [bitsOf_length]; omega), bit_big h (by omega)]; rfl
theorem list_ext {l k : List Bool} (h : l.length = k.length) (hb : ∀ i, i < l.length → l.getD i false = k.getD i false) : l = k := by
  apply List.ext_getElem h
  intro i h1 h2
  have := hb i h1
  simpa [List.getD, List.getElem?_eq_getElem h1, List.getElem?_eq_getElem h2] using this
theorem bitsOf_valB (l : List Bool) : bitsOf l.length (valB l) = l :=
  list_ext (bitsOf_length _ _) fun i hi => by rw [bitsOf_length] at hi; rw [bitsOf_getD _ _ _ hi, valB_bit]
/-- word i of a number -/
def word (x i : Nat) : Nat := x / 2 ^ (64 * i) % 2 ^ 64
theorem word_lt (x i : Nat) : word x i < 2 ^ 64 := Nat.mod_lt _ (by decide)
theorem word_bit (x i j : Nat) : (word x i).testBit j = (decide (j < 64) && x.testBit (64 * i + j)) := by
  rw [word, Nat.testBit_mod_two_pow, Nat.testBit_div_two_pow, Nat.add_comm]
theorem bit_word (x j : Nat) : x.testBit j = (word x (j / 64)).testBit (j % 64) := by
  rw [word_bit]
  have : j % 64 < 64 := Nat.mod_lt _ (by decide)
  rw [show 64 * (j / 64) + j % 64 = j by omega]; simp [this]
theorem words_ext {x y m : Nat} (hx : x < 2 ^ (64 * m)) (hy : y < 2 ^ (64 * m)) (h : ∀ i, i < m → word x i = word y i) : x = y := by
  apply eq_bits; intro j
  by_cases hj : j < 64 * m
  · rw [bit_word x, bit_word y, h (j / 64) (by omega)]
  · rw [bit_big hx (by omega), bit_big hy (by omega)]
theorem word_zero (i : Nat) : word 0 i = 0 := by simp [word]
/-- word k set to y -/
def setW (x k y : Nat) : Nat := x ^^^ ((word x k ^^^ y) <<< (64 * k))
theorem setW_word (x k y j : Nat) (hy : y < 2 ^ 64) : word (setW x k y) j = if j = k then y else word x j := by
  apply eq_bits; intro i
  rw [word_bit, setW, Nat.testBit_xor, Nat.testBit_shiftLeft]
  by_cases hi : i < 64
  · by_cases e : j = k
    · subst e
      have h1 : 64 * j + i - 64 * j = i := by omega
      simp [hi, h1, Nat.testBit_xor, word_bit]
    · rw [if_neg e, word_bit]
      rcases Nat.lt_or_ge j k with h | h
      · have h1 : ¬ 64 * k ≤ 64 * j + i := by omega
        simp [hi, h1]
      · have h2 : 64 ≤ 64 * j + i - 64 * k := by omega
        have h3 : ¬ (64 * j + i - 64 * k < 64) := by omega
        simp [hi, Nat.testBit_xor, word_bit, h3, bit_big hy h2]
  · have h0 : (if j = k then y else word x j).testBit i = false := by
      split
      · exact bit_big hy (by omega)
      · exact bit_big (word_lt x j) (by omega)
    rw [h0]; simp [hi]
theorem setW_lt {x k y m : Nat} (hx : x < 2 ^ (64 * m)) (hk : k < m) (hy : y < 2 ^ 64) : setW x k y < 2 ^ (64 * m) := by
  apply lt_of_bits; intro j hj
  rw [bit_word, setW_word x k y _ hy, if_neg (by omega), ← bit_word, bit_big hx hj]
/-- bit i set to b -/
def setB (x i : Nat) (b : Bool) : Nat := if b then x ||| 2 ^ i else x ^^^ (x &&& 2 ^ i)
theorem setB_bit (x i j : Nat) (b : Bool) : (setB x i b).testBit j = if j = i then b else x.testBit j := by
  unfold setB
  cases b
  · simp only [Bool.false_eq_true, if_false, Nat.testBit_xor, Nat.testBit_and, Nat.testBit_two_pow]
    by_cases e : j = i
    · subst e; simp
    · have : ¬ i = j := fun h => e h.symm
      simp [e, this]
  · simp only [if_true, Nat.testBit_or, Nat.testBit_two_pow]
    by_cases e : j = i
    · subst e; simp
    · have : ¬ i = j := fun h => e h.symm
      simp [e, this]
theorem setB_lt {x i n : Nat} (b : Bool) (hx : x < 2 ^ n) (hi : i < n) : setB x i b < 2 ^ n := by
  apply lt_of_bits; intro j hj
  rw [setB_bit, if_neg (by omega), bit_big hx hj]
theorem setB_word (x i k : Nat) (b : Bool) : word (setB x i b) k = if k = i / 64 then setB (word x k) (i % 64) b else word x k := by
  apply eq_bits; intro j
  rw [word_bit, setB_bit]
  by_cases hj : j < 64
  · by_cases e : k = i / 64
    · rw [if_pos e, setB_bit, word_bit]
      by_cases e2 : j = i % 64
      · rw [if_pos (by omega), if_pos e2]; simp [hj]
      · rw [if_neg (by omega), if_neg e2]
    · rw [if_neg e, word_bit, if_neg (by omega)]
  · simp only [hj, decide_false, Bool.false_and]
    split
    · rw [setB_bit, if_neg (by omega), word_bit]; simp [hj]
    · rw [word_bit]; simp [hj]
/-- as the program's two ways have it -/
theorem setB_or (x k : Nat) : x ||| 2 ^ k = setB x k true := by simp [setB]
theorem setB_andNot (x k : Nat) (hx : x < 2 ^ 64) (hk : k < 64) : x &&& (18446744073709551615 - 2 ^ k) = setB x k false := by
  apply eq_bits; intro j
  rw [setB_bit, Nat.testBit_and, show 18446744073709551615 - 2 ^ k = 2 ^ 64 - (2 ^ k + 1) by omega, Nat.testBit_two_pow_sub_succ (Nat.pow_lt_pow_right (by decide) hk), Nat.testBit_two_pow]
  by_cases e : j = k
  · subst e; simp
  · have : ¬ k = j := fun h => e h.symm
    by_cases hj : j < 64
    · simp [e, this, hj]
    · rw [bit_big hx (by omega)]; simp [e]
/-- the bits from n on cut off -/
theorem mod_bit (x n j : Nat) : (x % 2 ^ n).testBit j = (decide (j < n) && x.testBit j) := Nat.testBit_mod_two_pow x n j
theorem mod_word (x n k : Nat) : word (x % 2 ^ n) k = if k < n / 64 then word x k else if k = n / 64 then word x k % 2 ^ (n % 64) else 0 := by
  apply eq_bits; intro j
  rw [word_bit, mod_bit]
  by_cases hj : j < 64
  · split
    · rw [word_bit]; have : 64 * k + j < n := by omega
      simp [hj, this]
    · split
      · rename_i e
        rw [mod_bit, word_bit]
        by_cases h : j < n % 64
        · have : 64 * k + j < n := by omega
          simp [hj, h, this]
        · have : ¬ 64 * k + j < n := by omega
          simp [hj, h, this]
      · have : ¬ 64 * k + j < n := by omega
        simp [hj, this]
  · simp only [hj, decide_false, Bool.false_and]
    split
    · rw [bit_big (word_lt x k) (by omega)]
    · split
      · rw [mod_bit, bit_big (word_lt x k) (by omega)]; simp
      · simp
end Go.Proofs.YtkoggfahjlnecaaGreatDoor
namespace Go.Proofs.YtkoggfahjlnecaaGreatDoor
set_option linter.unusedVariables false
theorem pow_dvd {n m : Nat} (h : n ≤ m) : 2 ^ n ∣ 2 ^ m := Nat.pow_dvd_pow 2 h
theorem word_of_mod (S m i : Nat) (h : i < m) : word (S % 2 ^ (64 * m)) i = word S i := by
  rw [mod_word, if_pos (by omega)]
theorem cut_of_words {X S n m : Nat} (hn : n ≤ 64 * m) (h : ∀ i, i < m → word X i = word S i) : X % 2 ^ n = S % 2 ^ n := by
  apply eq_bits; intro j
  rw [mod_bit, mod_bit]
  by_cases hj : j < n
  · rw [bit_word X, bit_word S, h (j / 64) (by omega)]
  · simp [hj]
/-- the carry into word k -/
def carryTo (a b c k : Nat) : Nat := (a % 2 ^ (64 * k) + b % 2 ^ (64 * k) + c) / 2 ^ (64 * k)
theorem carry_zero (a b c : Nat) : carryTo a b c 0 = c := by simp [carryTo, Nat.mod_one]
theorem carry_le (a b c k : Nat) (hc : c ≤ 1) : carryTo a b c k ≤ 1 := by
  have hp : 0 < 2 ^ (64 * k) := Nat.pow_pos (by decide)
  have h1 := Nat.mod_lt a hp
  have h2 := Nat.mod_lt b hp
  apply Nat.le_of_lt_succ
  unfold carryTo
  rw [Nat.div_lt_iff_lt_mul hp]; omega
theorem pow_split (k : Nat) : 2 ^ (64 * (k + 1)) = 2 ^ (64 * k) * 2 ^ 64 := by rw [Nat.mul_add, Nat.mul_one, Nat.pow_add]
theorem mod_step (a k : Nat) : a % 2 ^ (64 * (k + 1)) = a % 2 ^ (64 * k) + 2 ^ (64 * k) * word a k := by
  rw [pow_split, Nat.mod_mul]; rfl
theorem carry_step (a b c k : Nat) : (word a k + word b k + carryTo a b c k) % 2 ^ 64 = word (a + b + c) k ∧ (word a k + word b k + carryTo a b c k) / 2 ^ 64 = carryTo a b c (k + 1) := by
  have hp : 0 < 2 ^ (64 * k) := Nat.pow_pos (by decide)
  constructor
  · have ha := Nat.mod_add_div a (2 ^ (64 * k))
    have hb := Nat.mod_add_div b (2 ^ (64 * k))
    have : (a + b + c) / 2 ^ (64 * k) = carryTo a b c k + a / 2 ^ (64 * k) + b / 2 ^ (64 * k) := by
      have e : a + b + c = (a % 2 ^ (64 * k) + b % 2 ^ (64 * k) + c) + 2 ^ (64 * k) * (a / 2 ^ (64 * k) + b / 2 ^ (64 * k)) := by
        rw [Nat.mul_add]; omega
      rw [e, Nat.add_mul_div_left _ _ hp, carryTo]; omega
    unfold word
    rw [this]; omega
  · rw [show carryTo a b c (k + 1) = (a % 2 ^ (64 * (k + 1)) + b % 2 ^ (64 * (k + 1)) + c) / 2 ^ (64 * (k + 1)) from rfl, mod_step, mod_step, pow_split, ← Nat.div_div_eq_div_mul]
    have e : a % 2 ^ (64 * k) + 2 ^ (64 * k) * word a k + (b % 2 ^ (64 * k) + 2 ^ (64 * k) * word b k) + c = (a % 2 ^ (64 * k) + b % 2 ^ (64 * k) + c) + 2 ^ (64 * k) * (word a k + word b k) := by
      rw [Nat.mul_add]; omega
    rw [e, Nat.add_mul_div_left _ _ hp, carryTo]
    congr 1; omega
theorem word_not (a m i : Nat) (ha : a < 2 ^ (64 * m)) (hi : i < m) : word (2 ^ (64 * m) - 1 - a) i = 18446744073709551615 - word a i := by
  apply eq_bits; intro j
  have h1 : 2 ^ (64 * m) - 1 - a = 2 ^ (64 * m) - (a + 1) := by omega
  have h2 : 18446744073709551615 - word a i = 2 ^ 64 - (word a i + 1) := by omega
  rw [h2, Nat.testBit_two_pow_sub_succ (word_lt a i), word_bit, h1, Nat.testBit_two_pow_sub_succ ha, word_bit]
  by_cases hj : j < 64
  · have : 64 * i + j < 64 * m := by omega
    simp [hj, this]
  · simp [hj]
/-- all bits turned -/
def notN (n a : Nat) : Nat := 2 ^ n - 1 - a
theorem notN_lt (n a : Nat) : notN n a < 2 ^ n := by have : 0 < 2 ^ n := Nat.pow_pos (by decide); unfold notN; omega
theorem notN_bit {n a : Nat} (ha : a < 2 ^ n) (j : Nat) : (notN n a).testBit j = (decide (j < n) && !a.testBit j) := by
  rw [notN, show 2 ^ n - 1 - a = 2 ^ n - (a + 1) by omega, Nat.testBit_two_pow_sub_succ ha]
theorem not_cut {a n m : Nat} (ha : a < 2 ^ n) (hn : n ≤ 64 * m) : (2 ^ (64 * m) - 1 - a) % 2 ^ n = notN n a := by
  have ha' : a < 2 ^ (64 * m) := Nat.lt_of_lt_of_le ha (Nat.pow_le_pow_right (by decide) hn)
  apply eq_bits; intro j
  rw [mod_bit, notN_bit ha, show 2 ^ (64 * m) - 1 - a = 2 ^ (64 * m) - (a + 1) by omega, Nat.testBit_two_pow_sub_succ ha']
  by_cases hj : j < n
  · have : j < 64 * m := by omega
    simp [hj, this]
  · simp [hj]
/-- 0 less it -/
def negN (n a : Nat) : Nat := (2 ^ n - a) % 2 ^ n
theorem negN_eq {n a : Nat} (ha : a < 2 ^ n) : (notN n a + 0 + 1) % 2 ^ n = negN n a := by
  unfold notN negN; congr 1; omega
theorem negN_lt (n a : Nat) : negN n a < 2 ^ n := Nat.mod_lt _ (Nat.pow_pos (by decide))
theorem word_and (a b i : Nat) : word (a &&& b) i = word a i &&& word b i := by
  apply eq_bits; intro j; simp only [word_bit, Nat.testBit_and]; cases decide (j < 64) <;> simp
theorem word_or (a b i : Nat) : word (a ||| b) i = word a i ||| word b i := by
  apply eq_bits; intro j; simp only [word_bit, Nat.testBit_or]; cases decide (j < 64) <;> simp
theorem word_xor (a b i : Nat) : word (a ^^^ b) i = word a i ^^^ word b i := by
  apply eq_bits; intro j; simp only [word_bit, Nat.testBit_xor]; cases decide (j < 64) <;> simp
theorem div_word (a i : Nat) : a / 2 ^ (64 * i) = a / 2 ^ (64 * (i + 1)) * 2 ^ 64 + word a i := by
  rw [pow_split, ← Nat.div_div_eq_div_mul, word]
  generalize a / 2 ^ (64 * i) = q
  omega
theorem above_eq {a b m : Nat} (ha : a < 2 ^ (64 * m)) (hb : b < 2 ^ (64 * m)) (i : Nat) (h : ∀ j, i ≤ j → j < m → word a j = word b j) : a / 2 ^ (64 * i) = b / 2 ^ (64 * i) := by
  apply eq_bits; intro j
  rw [Nat.testBit_div_two_pow, Nat.testBit_div_two_pow]
  by_cases hj : j + 64 * i < 64 * m
  · rw [bit_word a, bit_word b, h _ (by omega) (by omega)]
  · rw [bit_big ha (by omega), bit_big hb (by omega)]
theorem less_words {a b m : Nat} (ha : a < 2 ^ (64 * m)) (hb : b < 2 ^ (64 * m)) (i : Nat) (h : ∀ j, i < j → j < m → word a j = word b j) (hne : word a i ≠ word b i) : a < b ↔ word a i < word b i := by
  have hH := above_eq ha hb (i + 1) (fun j h1 h2 => h j (by omega) h2)
  have h1 := div_word a i
  have h2 := div_word b i
  rw [hH] at h1
  have hp : 0 < 2 ^ (64 * i) := Nat.pow_pos (by decide)
  constructor
  · intro hlt
    have := Nat.div_le_div_right (c := 2 ^ (64 * i)) (Nat.le_of_lt hlt)
    omega
  · intro hlt
    have h3 : a / 2 ^ (64 * i) < b / 2 ^ (64 * i) := by omega
    rcases Nat.lt_or_ge a b with h | h
    · exact h
    · have := Nat.div_le_div_right (c := 2 ^ (64 * i)) h; omega
theorem mul_step (A B C W : Nat) (hA : A < 2 ^ 64) (hB : B < 2 ^ 64) (hC : C < 2 ^ 64) (hW : W < 2 ^ 64) :
    (W + (A * B % 2 ^ 64 + C) % 2 ^ 64) % 2 ^ 64 = (A * B + C + W) % 2 ^ 64 ∧
    A * B / 2 ^ 64 + (A * B % 2 ^ 64 + C) / 2 ^ 64 + (W + (A * B % 2 ^ 64 + C) % 2 ^ 64) / 2 ^ 64 = (A * B + C + W) / 2 ^ 64 ∧ (A * B + C + W) / 2 ^ 64 < 2 ^ 64 := by
  have hp : A * B ≤ (2 ^ 64 - 1) * (2 ^ 64 - 1) := Nat.mul_le_mul (by omega) (by omega)
  generalize A * B = p at *
  have hp' : p ≤ 340282366920938463426481119284349108225 := hp
  refine ⟨by omega, by omega, by omega⟩
end Go.Proofs.YtkoggfahjlnecaaGreatDoor
namespace Go.Proofs.YtkoggfahjlnecaaGreatDoor
set_option linter.unusedVariables false
/-- the number with the words l -/
def valW : List Nat → Nat
  | [] => 0
  | x :: l => x + 2 ^ 64 * valW l
theorem valW_word : ∀ (l : List Nat) (h : ∀ x ∈ l, x < 2 ^ 64) (i : Nat), word (valW l) i = l.getD i 0
  | [], _, i => by simp [valW, word_zero]
  | x :: l, h, 0 => by
    have := h x (by simp)
    rw [valW, word]
    simp only [Nat.mul_zero, Nat.pow_zero, Nat.div_one, List.getD_cons_zero]
    rw [Nat.add_mul_mod_self_left, Nat.mod_eq_of_lt this]
  | x :: l, h, i + 1 => by
    have h1 := h x (by simp)
    have ih := valW_word l (fun y hy => h y (by simp [hy])) i
    rw [List.getD_cons_succ, ← ih, valW, word, word, show 64 * (i + 1) = 64 + 64 * i by omega, Nat.pow_add, ← Nat.div_div_eq_div_mul, Nat.add_mul_div_left _ _ (by decide), Nat.div_eq_of_lt h1, Nat.zero_add]
theorem valW_lt : ∀ (l : List Nat) (h : ∀ x ∈ l, x < 2 ^ 64), valW l < 2 ^ (64 * l.length)
  | [], _ => by decide
  | x :: l, h => by
    have h1 := h x (by simp)
    have ih := valW_lt l (fun y hy => h y (by simp [hy]))
    rw [valW, List.length_cons, Nat.mul_add, Nat.mul_one, Nat.pow_add]
    generalize 2 ^ (64 * l.length) = p at *
    have : valW l + 1 ≤ p := ih
    omega
theorem valW_take (l : List Nat) (h : ∀ x ∈ l, x < 2 ^ 64) (n m : Nat) (hn : n ≤ 64 * m) : valW (l.take m) % 2 ^ n = valW l % 2 ^ n := by
  refine cut_of_words hn fun i hi => ?_
  rw [valW_word _ (fun x hx => h x (List.mem_of_mem_take hx)), valW_word _ h, List.getD, List.getD, List.getElem?_take, if_pos hi]
end Go.Proofs.YtkoggfahjlnecaaGreatDoor
namespace Go.Proofs.YtkoggfahjlnecaaGreatDoor
set_option linter.unusedVariables false
theorem parts_num (x k : Nat) : x = x % 2 ^ (64 * k) + 2 ^ (64 * k) * word x k + 2 ^ (64 * (k + 1)) * (x / 2 ^ (64 * (k + 1))) := by
  have h := Nat.mod_add_div x (2 ^ (64 * (k + 1)))
  rw [mod_step] at h
  omega
theorem setW_mod (x k y : Nat) (hy : y < 2 ^ 64) : setW x k y % 2 ^ (64 * k) = x % 2 ^ (64 * k) := by
  apply eq_bits; intro j
  rw [mod_bit, mod_bit]
  by_cases hj : j < 64 * k
  · rw [bit_word, setW_word x k y _ hy, if_neg (by omega), ← bit_word]
  · simp [hj]
theorem setW_div (x k y : Nat) (hy : y < 2 ^ 64) : setW x k y / 2 ^ (64 * (k + 1)) = x / 2 ^ (64 * (k + 1)) := by
  apply eq_bits; intro j
  rw [Nat.testBit_div_two_pow, Nat.testBit_div_two_pow, bit_word, setW_word x k y _ hy, if_neg (by omega), ← bit_word]
theorem setW_num (x k y : Nat) (hy : y < 2 ^ 64) : setW x k y + 2 ^ (64 * k) * word x k = x + 2 ^ (64 * k) * y := by
  have h1 := parts_num (setW x k y) k
  have h2 := parts_num x k
  rw [setW_mod x k y hy, setW_div x k y hy, setW_word x k y k hy, if_pos rfl] at h1
  omega
theorem mul_inner {X Xi a B cy cy' W' i k : Nat} (hW : W' < 2 ^ 64) (h : X + 2 ^ (64 * (i + k)) * cy = Xi + a * (2 ^ (64 * i) * (B % 2 ^ (64 * k)))) (hs : W' + 2 ^ 64 * cy' = a * word B k + cy + word X (i + k)) :
    setW X (i + k) W' + 2 ^ (64 * (i + (k + 1))) * cy' = Xi + a * (2 ^ (64 * i) * (B % 2 ^ (64 * (k + 1)))) := by
  have h1 := setW_num X (i + k) W' hW
  have e1 : 2 ^ (64 * (i + (k + 1))) = 2 ^ (64 * (i + k)) * 2 ^ 64 := by rw [← Nat.add_assoc, pow_split]
  have e2 : 2 ^ (64 * (i + k)) = 2 ^ (64 * i) * 2 ^ (64 * k) := by rw [Nat.mul_add, Nat.pow_add]
  rw [mod_step, Nat.mul_add (2 ^ (64 * i)), Nat.mul_add a, ← Nat.add_assoc Xi, ← h, e1, ← Nat.mul_assoc (2 ^ (64 * i)), ← e2]
  have e3 : a * (2 ^ (64 * (i + k)) * word B k) = 2 ^ (64 * (i + k)) * (a * word B k) := by rw [Nat.mul_left_comm]
  rw [e3]
  generalize 2 ^ (64 * (i + k)) = p at *
  have h2 : p * (W' + 2 ^ 64 * cy') = p * (a * word B k + cy + word X (i + k)) := by rw [hs]
  simp only [Nat.mul_add] at h2
  rw [Nat.mul_assoc p]
  omega
theorem mul_outer {X Xi A B cy i m : Nat} (him : i < m) (hi : Xi % 2 ^ (64 * m) = A % 2 ^ (64 * i) * B % 2 ^ (64 * m)) (h : X + 2 ^ (64 * (i + (m - i))) * cy = Xi + word A i * (2 ^ (64 * i) * (B % 2 ^ (64 * (m - i))))) :
    X % 2 ^ (64 * m) = A % 2 ^ (64 * (i + 1)) * B % 2 ^ (64 * m) := by
  have e : i + (m - i) = m := by omega
  have e2 : 2 ^ (64 * m) = 2 ^ (64 * i) * 2 ^ (64 * (m - i)) := by rw [← Nat.pow_add]; congr 1; omega
  rw [e] at h
  have h1 : X % 2 ^ (64 * m) = (X + 2 ^ (64 * m) * cy) % 2 ^ (64 * m) := (Nat.add_mul_mod_self_left _ _ _).symm
  rw [h1, h]
  have e3 : 2 ^ (64 * i) * (B % 2 ^ (64 * (m - i))) = (2 ^ (64 * i) * B) % 2 ^ (64 * m) := by rw [e2, Nat.mul_mod_mul_left]
  rw [e3, Nat.add_mod, hi, ← Nat.add_mod, mod_step, Nat.add_mul, Nat.add_mod, Nat.mul_mod (word A i), Nat.mod_mod, ← Nat.mul_mod (word A i), ← Nat.add_mod]
  congr 2
  rw [← Nat.mul_assoc, Nat.mul_comm (word A i)]
end Go.Proofs.YtkoggfahjlnecaaGreatDoor
namespace Go.Proofs.YtkoggfahjlnecaaGreatDoor
set_option linter.unusedVariables false
theorem ring_add (n X Y : Nat) : (X + Y + 0) % 2 ^ n = (Y + X + 0) % 2 ^ n := by rw [Nat.add_comm X]
theorem ring_mul (n X Y : Nat) : X * Y % 2 ^ n = Y * X % 2 ^ n := by rw [Nat.mul_comm]
theorem ring_back {n X Y : Nat} (hX : X < 2 ^ n) (hY : Y < 2 ^ n) : ((X + Y + 0) % 2 ^ n + notN n Y + 1) % 2 ^ n = X := by
  have h0 : 0 < 2 ^ n := Nat.pow_pos (by decide)
  unfold notN
  generalize 2 ^ n = N at *
  simp only [Nat.add_zero]
  by_cases h : X + Y < N
  · rw [Nat.mod_eq_of_lt h, show X + Y + (N - 1 - Y) + 1 = X + N by omega, Nat.add_mod_right, Nat.mod_eq_of_lt hX]
  · have e : (X + Y) % N = X + Y - N := by rw [Nat.mod_eq_sub_mod (by omega), Nat.mod_eq_of_lt (by omega)]
    rw [e, show X + Y - N + (N - 1 - Y) + 1 = X by omega, Nat.mod_eq_of_lt hX]
theorem ring_neg {n X Y : Nat} (hX : X < 2 ^ n) (hY : Y < 2 ^ n) : (X + negN n Y + 0) % 2 ^ n = (X + notN n Y + 1) % 2 ^ n := by
  have h0 : 0 < 2 ^ n := Nat.pow_pos (by decide)
  unfold notN negN
  generalize 2 ^ n = N at *
  rw [Nat.add_zero, Nat.add_mod_mod]
  congr 1; omega
theorem ring_assoc (n X Y Z : Nat) : ((X + Y + 0) % 2 ^ n + Z + 0) % 2 ^ n = (X + (Y + Z + 0) % 2 ^ n + 0) % 2 ^ n := by
  simp only [Nat.add_zero, Nat.mod_add_mod, Nat.add_mod_mod, Nat.add_assoc]
theorem ring_dist (n X Y Z : Nat) : (X + Y + 0) % 2 ^ n * Z % 2 ^ n = (X * Z % 2 ^ n + Y * Z % 2 ^ n + 0) % 2 ^ n := by
  simp only [Nat.add_zero, Nat.mod_add_mod, Nat.add_mod_mod]
  rw [Nat.mul_mod, Nat.mod_mod, ← Nat.mul_mod, Nat.add_mul]
end Go.Proofs.YtkoggfahjlnecaaGreatDoor
