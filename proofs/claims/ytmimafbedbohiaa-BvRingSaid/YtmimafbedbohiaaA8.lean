import Derived.Test.YtmimafbedbohiaaA7
namespace Go.Proofs.Ytmimafbedbohiaa
set_option linter.unusedVariables false
open Go.RowKit

/-- bit i of x, at any index -/
def bitI (x : Nat) (i : Int) : Bool := decide (0 ≤ i) && x.testBit i.toNat
theorem u64_bit (W k : Nat) (hW : W < 2 ^ 64) (r : Bool) (hr : W.testBit k = r) : (bits .and .u64 ((W : Int) / 2 ^ k) 1 == 1) = r := by
  have e : (W : Int) / 2 ^ k = ((W / 2 ^ k : Nat) : Int) := by simp
  have h1 : W / 2 ^ k < 18446744073709551616 := Nat.lt_of_le_of_lt (Nat.div_le_self _ _) hW
  rw [e, show (1 : Int) = ((1 : Nat) : Int) from rfl, u64_and_nat _ 1 h1 (by decide), nat_mask1, ← hr, Nat.testBit_eq_decide_div_mod_eq]
  generalize W / 2 ^ k % 2 = q
  rw [Bool.eq_iff_iff]
  simp
  omega

set_option maxRecDepth 100000 in
set_option maxHeartbeats 1000000 in
theorem bit_any {w : World} {v : Value} {n x : Nat} (h : VR w v n x) (i : Int) : Calls Try.prog 17 #[v, .int .i64 i] w fun e w' => e = .returned (.bool (bitI x i)) ∧ Below w.heap.size w w' := by
  by_cases h0 : i < 0
  · have hb : bitI x i = false := by unfold bitI; rw [decide_eq_false (by omega)]; rfl
    obtain ⟨⟨p, c, rfl, _⟩, _, _⟩ := h
    rw [hb]
    clear hb
    have hd : decide (0 ≤ i) = false := by simp; omega
    go_enter Try.func17, Try.ntmps17
    go_wp2_with fail
    go_ret
    exact ⟨rfl, Below.new _ _⟩
  · obtain ⟨j, rfl⟩ : ∃ j : Nat, i = j := ⟨i.toNat, by omega⟩
    have hb : bitI x j = x.testBit j := by unfold bitI; simp
    rw [hb]
    have hle := h.le
    by_cases hj : j < n
    · have hk : j / 64 < wcount n := by unfold wcount; omega
      obtain ⟨b, o, c, rfl, hc⟩ := h.word hk
      have hlt := World.block_lt_of_cell? _ _ hc
      have hji : (j : Int) < n := by omega
      have hji2 : (j : Int) ≤ 128 := by omega
      have q1 : (0 : Int) ≤ (j : Int) / 64 := by omega
      have q2 : (j : Int) / 64 < (wcount n : Int) := by omega
      have q3 : ((j : Int) / 64).toNat = j / 64 := by omega
      have q4 : (0 : Int) ≤ (j : Int) % 64 := by omega
      have q5 : ((j : Int) % 64).toNat = j % 64 := by omega
      have q6 : (j : Int).tmod 64 = (j : Int) % 64 := Int.tmod_eq_emod_of_nonneg (by omega)
      have q7 : min (j % 64) 64 = j % 64 := by omega
      have q0 : IntKind.i64.wrap ((j : Int) / 64) = (j : Int) / 64 := IntWalk.i64_in _ (by omega)
      obtain ⟨r, hr⟩ : ∃ r, x.testBit j = r := ⟨_, rfl⟩
      have hu := u64_bit (word x (j / 64)) (j % 64) (word_lt _ _) r (by rw [← hr]; exact (bit_word x j).symm)
      have hd : decide (0 ≤ (j : Int)) = true := by simp
      have hd2 : decide ((j : Int) < n) = true := by simp; omega
      rw [hr]
      have HU := Lib.hid hu
      generalize word x (j / 64) = wx at *
      clear h hb hr hk hj
      go_enter Try.func17, Try.ntmps17
      go_wp2_with fail
      go_ret
      exact ⟨rfl, Below.new _ _⟩
    · have hb2 : x.testBit j = false := bit_big h.lt (by omega)
      rw [hb2]
      obtain ⟨⟨p, c, rfl, _⟩, _, _⟩ := h
      have hd : decide (0 ≤ (j : Int)) = true := by simp
      have hd2 : decide ((j : Int) < n) = false := by simp; omega
      have hji : (n : Int) ≤ j := by omega
      clear hb hb2 hj
      go_enter Try.func17, Try.ntmps17
      go_wp2_with fail
      go_ret
      exact ⟨rfl, Below.new _ _⟩
end Go.Proofs.Ytmimafbedbohiaa
