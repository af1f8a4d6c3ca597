import Derived.Test.YtmimafbedbohiaaA22
import Derived.Test.YtmimafbedbohiaaA17
namespace Go.Proofs.Ytmimafbedbohiaa
set_option linter.unusedVariables false

theorem moves_back {n X K : Nat} (hK : K < n) : shiftN 11 n (shiftN 10 n X K) K = ofB (extF (ofB (sliceF X 0) (n - K)) (n - K) false) n := by
  have hm : min K n = K := by omega
  unfold shiftN
  rw [hm]
  simp only [if_true, show ¬ (11 : Nat) = 10 by decide, if_false]
  refine ofB_congr fun j hj => ?_
  unfold downF extF
  rw [testBit_ofB, testBit_ofB]
  unfold upF sliceF
  by_cases h : j < n - K
  · rw [if_pos h, decide_eq_true (show j + K < n by omega), decide_eq_true (show K ≤ j + K by omega), decide_eq_true h, Nat.add_sub_cancel, Nat.zero_add]; simp
  · rw [if_neg h, decide_eq_false h]; simp
theorem moves_all {n X : Nat} : shiftN 11 n (shiftN 10 n X n) n = 0 := by
  unfold shiftN
  rw [Nat.min_self]
  simp only [show ¬ (11 : Nat) = 10 by decide, if_false, if_true]
  refine ofB_none _ _ fun j hj => ?_
  unfold downF
  rw [if_neg (by omega)]
theorem top_not {n X : Nat} (hn : 0 < n) (hX : X < 2 ^ n) : topB n (notN n X) = !topB n X := by
  unfold topB bitI
  rw [decide_eq_true (by omega), show ((n : Int) - 1).toNat = n - 1 by omega, notN_bit hX, decide_eq_true (by omega)]; simp
theorem moves_sar {n X K : Nat} (hn : 0 < n) (hX : X < 2 ^ n) : notN n (shiftN 12 n (notN n X) K) = shiftN 12 n X K := by
  apply eq_bits; intro j
  have hl : shiftN 12 n (notN n X) K < 2 ^ n := shiftN_lt _ _ _ _
  rw [notN_bit hl]
  unfold shiftN
  simp only [show ¬ (12 : Nat) = 10 by decide, show ¬ (12 : Nat) = 11 by decide, if_false]
  rw [testBit_ofB, testBit_ofB, top_not hn hX]
  by_cases hj : j < n
  · rw [decide_eq_true hj]
    unfold downF
    by_cases h : j < n - min K n
    · rw [if_pos h, if_pos h, notN_bit hX, decide_eq_true (by omega)]; simp
    · rw [if_neg h, if_neg h]; simp
  · rw [decide_eq_false hj]; simp
end Go.Proofs.Ytmimafbedbohiaa
