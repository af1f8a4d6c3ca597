
import Derived.Test.YtcdjkbgedmehjaaGreatDoorVB6
namespace Go.Proofs.YtcdjkbgedmehjaaGreatDoor
set_option linter.unusedVariables false
open Go.RowKit
theorem ofB_less (f g : Nat → Bool) (i : Nat) (hi : f i ≠ g i) : ∀ n, i < n → (∀ j, i < j → j < n → f j = g j) → decide (ofB f n < ofB g n) = g i
  | 0, h, _ => absurd h (Nat.not_lt_zero _)
  | n + 1, h, he => by
    have h1 := ofB_lt f n
    have h2 := ofB_lt g n
    by_cases e : i = n
    · subst e
      rw [ofB, ofB]
      generalize ofB f i = x at *
      generalize ofB g i = y at *
      generalize 2 ^ i = z at *
      cases hf : f i <;> cases hg : g i <;> simp_all <;> omega
    · have ih := ofB_less f g i hi n (by omega) fun j a b => he j a (by omega)
      rw [ofB, ofB, he n (by omega) (by omega), ← ih]
      congr 1
      simp
theorem ofB_same (f g : Nat → Bool) (n : Nat) (h : ∀ j, j < n → f j = g j) : decide (ofB f n < ofB g n) = false := by
  rw [ofB_congr h]; simp
end Go.Proofs.YtcdjkbgedmehjaaGreatDoor
namespace Go.Proofs.YtcdjkbgedmehjaaGreatDoor
set_option linter.unusedVariables false
open Go.RowKit
end Go.Proofs.YtcdjkbgedmehjaaGreatDoor
namespace Go.Proofs.YtcdjkbgedmehjaaGreatDoor
set_option linter.unusedVariables false
open Go.RowKit
def textF (n : Nat) (f : Nat → Bool) : ByteArray := ⟨((List.range n).map fun j => if f (n - 1 - j) then (49 : UInt8) else 48).toArray⟩
theorem textF_eq (n A : Nat) : textF n A.testBit = textS n A := rfl
theorem textF_size (n : Nat) (f : Nat → Bool) : (textF n f).size = n := by simp [textF, ByteArray.size]
theorem textF_succ (k : Nat) (f : Nat → Bool) : (⟨#[if f k then (49 : UInt8) else 48]⟩ : ByteArray) ++ textF k f = textF (k + 1) f := by
  apply ByteArray.ext
  apply Array.ext'
  simp only [ByteArray.data_append, textF, Array.toList_append, List.singleton_append]
  rw [List.range_succ_eq_map]
  simp only [List.map_cons, List.map_map]
  congr 1
  apply List.map_congr_left
  intro j hj
  have : k - 1 - j = k + 1 - 1 - (j + 1) := by omega
  simp only [Function.comp, this]
set_option maxRecDepth 100000 in
set_option maxHeartbeats 4000000 in
theorem rtext_any {w : World} {va : Value} {n : Nat} {f : Nat → Bool} (hA : RO w va 1 n (bools (rl n f))) (hn : n ≤ 128) : Calls Tryz.prog 41 #[va] w fun e w' => e = .returned (.string (textF n f)) ∧ w = w' := by
  have hni : (n : Int) ≤ 128 := by omega
  have HA := Lib.hid hA
  obtain ⟨pa, ca, rfl⟩ := hA.form
  clear hA hn
  go_enter Tryz.func41, Tryz.ntmps41
  go_wp2_with fail
  go_loopw [3, 4] (fun s i wr => ∃ k : Nat, k ≤ n ∧ i = .int .i64 k ∧ s = .string (textF k f) ∧ w = wr) (fun s i _ => n - (intOf i).toNat)
  case atStart => exact ⟨0, Nat.zero_le _, rfl, rfl, rfl⟩
  case round =>
    obtain ⟨k, hk, rfl, rfl, rfl⟩ := hrel
    by_cases hlt : k < n
    · have hki : (k : Int) < n := by omega
      have hat := bools_at (rl n f) k (by rw [rl_length]; exact hlt)
      rw [rl_getD n f k hlt] at hat
      obtain ⟨bl, ol, rfl⟩ := HA.out.sl hat
      have f0 := HA.out.cell hat
      have HT := Lib.hid (textF_succ k f)
      have HLT := Lib.hid hlt
      have hsz : ¬ 9223372036854775807 < 1 + (textF k f).size := by rw [textF_size]; omega
      generalize textF k f = s at *
      generalize f k = q at *
      clear hat hlt hk
      cases q
      · go_wp2_with fail
        exact ⟨⟨k + 1, HLT.out, by go_num, by rw [← HT.out]; rfl, trivial⟩, by simp [intOf]; omega⟩
      · go_wp2_with fail
        exact ⟨⟨k + 1, HLT.out, by go_num, by rw [← HT.out]; rfl, trivial⟩, by simp [intOf]; omega⟩
    · obtain rfl : k = n := by omega
      clear hlt
      go_wp2_with fail
      go_ret
      exact ⟨rfl, rfl⟩
end Go.Proofs.YtcdjkbgedmehjaaGreatDoor
namespace Go.Proofs.YtcdjkbgedmehjaaGreatDoor
set_option linter.unusedVariables false
open Go.RowKit
/-- the carry into bit j -/
def cB (f g : Nat → Bool) (c : Bool) : Nat → Bool
  | 0 => c
  | j + 1 => (f j && g j) || (f j && cB f g c j) || (g j && cB f g c j)
/-- bit j of the sum -/
def sB (f g : Nat → Bool) (c : Bool) (j : Nat) : Bool := (f j != g j) != cB f g c j
theorem sum_bits (f g : Nat → Bool) (c : Bool) : ∀ n, ofB f n + ofB g n + (if c then 1 else 0) = ofB (sB f g c) n + (if cB f g c n then 2 ^ n else 0)
  | 0 => by cases c <;> simp [ofB, cB]
  | n + 1 => by
    have ih := sum_bits f g c n
    rw [ofB, ofB, ofB, cB, sB, Nat.pow_succ]
    generalize ofB f n = x at *
    generalize ofB g n = y at *
    generalize ofB (sB f g c) n = z at *
    generalize 2 ^ n = p at *
    generalize cB f g c n = q at *
    generalize (if c = true then 1 else 0) = d at *
    cases f n <;> cases g n <;> cases q <;> simp_all <;> omega
theorem sum_mod (f g : Nat → Bool) (c : Bool) (n : Nat) : (ofB f n + ofB g n + (if c then 1 else 0)) % 2 ^ n = ofB (sB f g c) n := by
  rw [sum_bits]
  have := ofB_lt (sB f g c) n
  split
  · rw [Nat.add_mod_right, Nat.mod_eq_of_lt this]
  · rw [Nat.add_zero, Nat.mod_eq_of_lt this]
end Go.Proofs.YtcdjkbgedmehjaaGreatDoor
namespace Go.Proofs.YtcdjkbgedmehjaaGreatDoor
set_option linter.unusedVariables false
open Go.RowKit
/-- bit j of f moved by s, what comes in is q -/
def moveF (f : Nat → Bool) (n : Nat) (s : Int) (q : Bool) (j : Nat) : Bool := if 0 ≤ (j : Int) - s ∧ (j : Int) - s < n then f ((j : Int) - s).toNat else q
end Go.Proofs.YtcdjkbgedmehjaaGreatDoor
namespace Go.Proofs.YtcdjkbgedmehjaaGreatDoor
set_option linter.unusedVariables false
open Go.RowKit
end Go.Proofs.YtcdjkbgedmehjaaGreatDoor
namespace Go.Proofs.YtcdjkbgedmehjaaGreatDoor
set_option linter.unusedVariables false
open Go.RowKit
theorem ofB_inj {f g : Nat → Bool} {n : Nat} (h : ofB f n = ofB g n) (i : Nat) (hi : i < n) : f i = g i := by
  have h1 := testBit_ofB f n i
  have h2 := testBit_ofB g n i
  rw [h, h2] at h1
  simpa [hi] using h1.symm
theorem requal_diff {w : World} {va vb : Value} {n m : Nat} {f g : Nat → Bool} (hA : RO w va 1 n (bools (rl n f))) (hB : RO w vb 1 m (bools (rl m g))) (hne : n ≠ m) :
    Calls Tryz.prog 40 #[va, vb] w fun e w' => e = .returned (.bool false) ∧ w = w' := by
  have hd : ((n : Int) != m) = true := by simp; omega
  obtain ⟨pa, ca, rfl⟩ := hA.form
  obtain ⟨pb, cb, rfl⟩ := hB.form
  clear hA hB
  go_enter Tryz.func40, Tryz.ntmps40
  go_wp2_with fail
  go_ret
  exact ⟨rfl, rfl⟩
set_option maxRecDepth 100000 in
set_option maxHeartbeats 4000000 in
theorem requal_any {w : World} {va vb : Value} {n : Nat} {f g : Nat → Bool} (hA : RO w va 1 n (bools (rl n f))) (hB : RO w vb 1 n (bools (rl n g))) (hn : n ≤ 140) :
    Calls Tryz.prog 40 #[va, vb] w fun e w' => e = .returned (.bool (decide (ofB f n = ofB g n))) ∧ Below w.heap.size w w' := by
  have hni : (n : Int) ≤ 140 := by omega
  have HA := Lib.hid hA
  have HB := Lib.hid hB
  obtain ⟨pa, ca, rfl⟩ := hA.form
  obtain ⟨pb, cb, rfl⟩ := hB.form
  clear hA hB hn
  go_enter Tryz.func40, Tryz.ntmps40
  go_wp2_with fail
  go_loopw [5] (fun i wr => ∃ k : Nat, k ≤ n ∧ i = .int .i64 k ∧ (∀ j, j < k → f j = g j) ∧ Below w.heap.size w wr) (fun i _ => n - (intOf i).toNat)
  case atStart => exact ⟨0, Nat.zero_le _, rfl, fun j hj => absurd hj (Nat.not_lt_zero _), Below.refl _ _⟩
  case round =>
    obtain ⟨k, hk, rfl, hz, hbel⟩ := hrel
    have HZ := Lib.hid hz
    have HBel := Lib.hid hbel
    by_cases hlt : k < n
    · have hki : (k : Int) < n := by omega
      have hat := bools_at (rl n f) k (by rw [rl_length]; exact hlt)
      rw [rl_getD n f k hlt] at hat
      obtain ⟨bl, ol, rfl⟩ := (HA.out.below hbel).sl hat
      have f0 := (HA.out.below hbel).cell hat
      have hbt := bools_at (rl n g) k (by rw [rl_length]; exact hlt)
      rw [rl_getD n g k hlt] at hbt
      obtain ⟨bl2, ol2, rfl⟩ := (HB.out.below hbel).sl hbt
      have g0 := (HB.out.below hbel).cell hbt
      obtain ⟨p, hp⟩ : ∃ p, f k = p := ⟨_, rfl⟩
      obtain ⟨q, hq⟩ : ∃ q, g k = q := ⟨_, rfl⟩
      have HPQ := Lib.hid (And.intro hp hq)
      have HLT := Lib.hid hlt
      rw [hp] at f0
      rw [hq] at g0
      clear hz hat hbt hp hq hlt hbel
      by_cases e : p = q
      · subst e
        have HZ2 : Hid (∀ j, j < k + 1 → f j = g j) := Lib.hid fun j b => by
          by_cases e : j = k
          · subst e; rw [HPQ.out.1, HPQ.out.2]
          · exact HZ.out j (by omega)
        cases p
        all_goals
          go_wp2_with fail
          go_quiet (fail)
          go_wp2_with fail
          go_roundw
          case rel => exact ⟨k + 1, HLT.out, by go_num, HZ2.out, (HBel.out.trans (below_drewN _))⟩
          case measure => simp [intOf]; omega
      · have HF : Hid (decide (ofB f n = ofB g n) = false) := Lib.hid (by
          rw [decide_eq_false]
          intro h
          exact e (by rw [← HPQ.out.1, ← HPQ.out.2]; exact ofB_inj h k HLT.out))
        cases p <;> cases q <;> simp at e
        all_goals
          go_wp2_with fail
          go_quiet (fail)
          go_wp2_with fail
          go_ret
          exact ⟨by rw [HF.out]; rfl, (HBel.out.trans (below_drewN _))⟩
    · obtain rfl : k = n := by omega
      have HF : Hid (decide (ofB f k = ofB g k) = true) := Lib.hid (decide_eq_true (ofB_congr hz))
      clear hz hlt hbel
      go_wp2_with fail
      go_ret
      exact ⟨by rw [HF.out]; rfl, HBel.out⟩
end Go.Proofs.YtcdjkbgedmehjaaGreatDoor
namespace Go.Proofs.YtcdjkbgedmehjaaGreatDoor
set_option linter.unusedVariables false
open Go.RowKit
theorem div_bit (f : Nat → Bool) (n i : Nat) (hi : i < n) : ofB f n / 2 ^ i = 2 * (ofB f n / 2 ^ (i + 1)) + (if f i then 1 else 0) := by
  have h1 : ofB f n / 2 ^ (i + 1) = ofB f n / 2 ^ i / 2 := by rw [Nat.pow_succ, Nat.div_div_eq_div_mul]
  have h2 := testBit_ofB f n i
  rw [decide_eq_true hi, Bool.true_and, Nat.testBit_eq_decide_div_mod_eq] at h2
  rw [h1]
  generalize ofB f n / 2 ^ i = q at *
  cases hf : f i <;> simp [hf] at h2 ⊢ <;> omega
end Go.Proofs.YtcdjkbgedmehjaaGreatDoor
