import Derived.Test.YtmimafbedbohiaaA56
namespace Go.Proofs.Ytmimafbedbohiaa
set_option linter.unusedVariables false

theorem cg_neg {M a b : Int} (h : a % M = b % M) : (-a) % M = (-b) % M := by
  rw [Int.neg_eq_neg_one_mul, Int.neg_eq_neg_one_mul b, Int.mul_emod, h, ← Int.mul_emod]
theorem cg_mul {M a b c d : Int} (h : a % M = b % M) (k : c % M = d % M) : (a * c) % M = (b * d) % M := by
  rw [Int.mul_emod, h, k, ← Int.mul_emod]
theorem cg_add {M a b c d : Int} (h : a % M = b % M) (k : c % M = d % M) : (a + c) % M = (b + d) % M := by
  rw [Int.add_emod, h, k, ← Int.add_emod]
theorem cg_negN {n a : Nat} (ha : a ≤ 2 ^ n) : ((negN n a : Nat) : Int) % ((2 ^ n : Nat) : Int) = (-(a : Int)) % ((2 ^ n : Nat) : Int) := by
  unfold negN
  generalize 2 ^ n = M at *
  rw [Int.natCast_emod, Int.emod_emod, show ((M - a : Nat) : Int) = (M : Int) + -(a : Int) by omega, Int.add_emod_left]
/-- a number is its magnitude with its sign -/
theorem cg_mag {n X : Nat} (hX : X < 2 ^ n) : ((X : Nat) : Int) % ((2 ^ n : Nat) : Int) = (if topB n X then -((magN n X : Nat) : Int) else ((magN n X : Nat) : Int)) % ((2 ^ n : Nat) : Int) := by
  unfold magN
  by_cases h : topB n X = true
  · rw [if_pos h, if_pos h]
    have := cg_neg (cg_negN (n := n) (a := X) (by omega))
    rw [Int.neg_neg] at this
    exact this.symm
  · rw [if_neg h, if_neg h]
theorem magN_le {n Y : Nat} (hn : 0 < n) (hY : Y < 2 ^ n) : 2 * magN n Y ≤ 2 ^ n := by
  unfold magN
  rw [top_eq hn hY]
  by_cases h : 2 ^ n ≤ 2 * Y
  · rw [if_pos (by simpa using h)]
    unfold negN
    have h2 : 2 ^ n ≤ 2 * Y := h
    have h3 : 0 < 2 ^ n := Nat.pow_pos (by decide)
    rw [Nat.mod_eq_of_lt (by omega)]; omega
  · rw [if_neg (by simpa using h)]; omega
theorem sdiv_back {n X Y : Nat} (hX : X < 2 ^ n) (hY : Y < 2 ^ n) (h0 : Y ≠ 0) : (sdivN n X Y * Y % 2 ^ n + sremN n X Y + 0) % 2 ^ n = X := by
  have hx := cg_mag hX
  have hy := cg_mag hY
  have hmx := magN_lt hX
  have hdm := Nat.div_add_mod (magN n X) (magN n Y)
  have hdl : magN n X / magN n Y ≤ magN n X := Nat.div_le_self _ _
  have hrl : magN n X % magN n Y ≤ magN n X := Nat.mod_le _ _
  have hq1 := cg_negN (n := n) (a := magN n X / magN n Y) (by omega)
  have hr1 := cg_negN (n := n) (a := magN n X % magN n Y) (by omega)
  unfold sdivN sremN
  rw [Nat.add_zero, Nat.mod_add_mod]
  conv => rhs; rw [← Nat.mod_eq_of_lt hX]
  apply Int.ofNat_inj.1
  rw [Int.natCast_emod, Int.natCast_emod, Int.natCast_add, Int.natCast_mul, hx]
  generalize magN n X = x at *
  generalize magN n Y = y at *
  generalize x / y = a at *
  generalize x % y = r at *
  have hdm' : (y : Int) * a + r = x := by rw [← hdm]; simp
  have hc : (a : Int) * y = y * a := Int.mul_comm _ _
  generalize ((2 ^ n : Nat) : Int) = M at *
  cases htx : topB n X <;> cases hty : topB n Y
  · simp only [htx, hty, bne_self_eq_false, Bool.false_eq_true, if_false] at hx hy ⊢
    rw [cg_add (cg_mul (rfl : (a : Int) % M = a % M) hy) (rfl : (r : Int) % M = r % M)]
    congr 1; omega
  · simp only [htx, hty, if_true, Bool.false_eq_true, if_false, show (false != true) = true from rfl] at hx hy ⊢
    rw [cg_add (cg_mul hq1 hy) (rfl : (r : Int) % M = r % M), Int.neg_mul_neg]
    congr 1; omega
  · simp only [htx, hty, if_true, Bool.false_eq_true, if_false, show (true != false) = true from rfl] at hx hy ⊢
    rw [cg_add (cg_mul hq1 hy) hr1, Int.neg_mul]
    congr 1; omega
  · simp only [htx, hty, bne_self_eq_false, if_true, Bool.false_eq_true, if_false] at hx hy ⊢
    rw [cg_add (cg_mul (rfl : (a : Int) % M = a % M) hy) hr1, Int.mul_neg]
    congr 1; omega
theorem srem_top {n X Y : Nat} (hn : 0 < n) (hX : X < 2 ^ n) (hY : Y < 2 ^ n) (h0 : Y ≠ 0) (hm : sremN n X Y ≠ 0) : topB n (sremN n X Y) = topB n X := by
  have hy0 := magN_ne hY h0
  have hyl := magN_le hn hY
  have hrl : magN n X % magN n Y < magN n Y := Nat.mod_lt _ (by omega)
  have hrx : magN n X % magN n Y ≤ magN n X := Nat.mod_le _ _
  have h3 : 0 < 2 ^ n := Nat.pow_pos (by decide)
  unfold sremN at *
  cases htx : topB n X
  · rw [htx] at hm
    simp only [Bool.false_eq_true, if_false] at hm ⊢
    have hxm : magN n X = X := by unfold magN; rw [htx]; rfl
    have hX2 : ¬ 2 ^ n ≤ 2 * X := by rw [top_eq hn hX] at htx; simpa using htx
    rw [top_eq hn (by omega)]
    simp; omega
  · rw [htx] at hm
    simp only [if_true] at hm ⊢
    unfold negN at hm ⊢
    have hr0 : magN n X % magN n Y ≠ 0 := fun h => hm (by rw [h, Nat.sub_zero, Nat.mod_self])
    rw [Nat.mod_eq_of_lt (by omega), top_eq hn (by omega)]
    simp; omega
theorem sremN_lt {n X Y : Nat} (hX : X < 2 ^ n) : sremN n X Y < 2 ^ n := by
  unfold sremN
  split
  · exact negN_lt _ _
  · exact Nat.lt_of_le_of_lt (Nat.mod_le _ _) (magN_lt hX)
theorem udiv_back {n X Y : Nat} (hX : X < 2 ^ n) (h0 : Y ≠ 0) : (divN n X Y * Y % 2 ^ n + X % Y + 0) % 2 ^ n = X := by
  unfold divN
  rw [if_neg h0, Nat.add_zero, Nat.mod_add_mod, Nat.mul_comm, Nat.div_add_mod, Nat.mod_eq_of_lt hX]
end Go.Proofs.Ytmimafbedbohiaa
