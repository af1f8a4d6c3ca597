import Derived.Test.YtmimafbedbohiaaA63
import Derived.Test.YtmimafbedbohiaaR6
import Derived.Test.YtmimafbedbohiaaA60
import Derived.Test.YtmimafbedbohiaaB11
import Derived.Deep.CutRange
namespace Go.Proofs.Ytmimafbedbohiaa
set_option linter.unusedVariables false
open Go.RowKit

set_option maxRecDepth 100000 in
set_option maxHeartbeats 8000000 in
theorem run_0 {w : World} {va : Value} {n A : Nat} (hA : LN w va n A) (h1 : 1 ≤ n) (hn : n ≤ 128) : Calls Try.prog 42 #[.int .i64 0, va] w (RetNE w n (notN n A) 0) := by
  have hni : (n : Int) ≤ 128 := by omega
  have hn0 : ((n : Int) == 0) = false := by simp; omega
  have HN := Lib.hid (And.intro h1 hn)
  have HA := Lib.hid hA
  have HAb := Lib.hid hA.bits
  obtain ⟨pa, ca, rfl⟩ := hA.form
  clear hA h1 hn
  go_enter Try.func42, Try.ntmps42
  go_wp2_with fail
  go_loopw [6, 7] (fun ov iv wr => ∃ k : Nat, k ≤ n ∧ iv = .int .i64 k ∧ ov = .bool (parity A.testBit k) ∧ wr = w) (fun _ iv _ => n - (intOf iv).toNat)
  case atStart => exact ⟨0, Nat.zero_le _, rfl, rfl, rfl⟩
  case round =>
    obtain ⟨k, hk, rfl, rfl, rfl⟩ := hrel
    by_cases hlt : k < n
    · have hki : (k : Int) < n := by omega
      have hk0 : (0 : Int) ≤ k := by omega
      have hat : (bools (rl n A.testBit))[k]? = some (.bool (A.testBit k)) := by rw [bools_at _ _ (by rw [rl_length]; exact hlt), rl_getD _ _ _ hlt]
      obtain ⟨b, o, e⟩ := HAb.out.sl hat
      subst e
      have g := HAb.out.cell hat
      have HP : Hid (parity A.testBit (k + 1) = (parity A.testBit k != A.testBit k)) := Lib.hid rfl
      have HLT := Lib.hid hlt
      generalize parity A.testBit k = pk at *
      generalize A.testBit k = ak at *
      clear hat hlt hk
      go_wp2_with fail
      go_roundw
      case rel => exact ⟨k + 1, by have := HLT.out; omega, by go_num, by rw [HP.out]; cases pk <;> cases ak <;> rfl, by first | rfl | trivial⟩
      case measure => simp [intOf]; omega
    · obtain rfl : k = n := by omega
      obtain ⟨q, hq⟩ : ∃ q, parity A.testBit k = q := ⟨_, rfl⟩
      have HQ := Lib.hid hq
      rw [hq]
      clear hlt hk hq
      go_wp2_with fail
      refine (nnot HA.out (by have := HN.out; omega)).mono ?_; rintro e w9 ⟨v9, rfl, h9, hb9⟩
      have HF := Lib.hid (And.intro h9 hb9)
      clear h9 hb9
      go_wp2_with fail
      go_ret2
      exact ⟨_, rfl, HF.out.1, HF.out.2⟩

set_option maxRecDepth 100000 in
set_option maxHeartbeats 8000000 in
theorem run_1 {w : World} {va : Value} {n A : Nat} (hA : LN w va n A) (h1 : 1 ≤ n) (hn : n ≤ 128) : Calls Try.prog 42 #[.int .i64 1, va] w (RetNE w n (negN n A) 0) := by
  have hni : (n : Int) ≤ 128 := by omega
  have hn0 : ((n : Int) == 0) = false := by simp; omega
  have HN := Lib.hid (And.intro h1 hn)
  have HA := Lib.hid hA
  have HAb := Lib.hid hA.bits
  obtain ⟨pa, ca, rfl⟩ := hA.form
  clear hA h1 hn
  go_enter Try.func42, Try.ntmps42
  go_wp2_with fail
  go_loopw [6, 7] (fun ov iv wr => ∃ k : Nat, k ≤ n ∧ iv = .int .i64 k ∧ ov = .bool (parity A.testBit k) ∧ wr = w) (fun _ iv _ => n - (intOf iv).toNat)
  case atStart => exact ⟨0, Nat.zero_le _, rfl, rfl, rfl⟩
  case round =>
    obtain ⟨k, hk, rfl, rfl, rfl⟩ := hrel
    by_cases hlt : k < n
    · have hki : (k : Int) < n := by omega
      have hk0 : (0 : Int) ≤ k := by omega
      have hat : (bools (rl n A.testBit))[k]? = some (.bool (A.testBit k)) := by rw [bools_at _ _ (by rw [rl_length]; exact hlt), rl_getD _ _ _ hlt]
      obtain ⟨b, o, e⟩ := HAb.out.sl hat
      subst e
      have g := HAb.out.cell hat
      have HP : Hid (parity A.testBit (k + 1) = (parity A.testBit k != A.testBit k)) := Lib.hid rfl
      have HLT := Lib.hid hlt
      generalize parity A.testBit k = pk at *
      generalize A.testBit k = ak at *
      clear hat hlt hk
      go_wp2_with fail
      go_roundw
      case rel => exact ⟨k + 1, by have := HLT.out; omega, by go_num, by rw [HP.out]; cases pk <;> cases ak <;> rfl, by first | rfl | trivial⟩
      case measure => simp [intOf]; omega
    · obtain rfl : k = n := by omega
      obtain ⟨q, hq⟩ : ∃ q, parity A.testBit k = q := ⟨_, rfl⟩
      have HQ := Lib.hid hq
      rw [hq]
      clear hlt hk hq
      go_wp2_with fail
      refine (nneg HA.out HN.out.2).mono ?_; rintro e w9 ⟨v9, rfl, h9, hb9⟩
      have HF := Lib.hid (And.intro h9 hb9)
      clear h9 hb9
      go_wp2_with fail
      go_ret2
      exact ⟨_, rfl, HF.out.1, HF.out.2⟩

set_option maxRecDepth 100000 in
set_option maxHeartbeats 8000000 in
theorem run_2 {w : World} {va : Value} {n A : Nat} (hA : LN w va n A) (h1 : 1 ≤ n) (hn : n ≤ 128) : Calls Try.prog 42 #[.int .i64 2, va] w (RetNE w 1 (b2n (!nz (notN n A))) 0) := by
  have hni : (n : Int) ≤ 128 := by omega
  have hn0 : ((n : Int) == 0) = false := by simp; omega
  have HN := Lib.hid (And.intro h1 hn)
  have HA := Lib.hid hA
  have HAb := Lib.hid hA.bits
  obtain ⟨pa, ca, rfl⟩ := hA.form
  clear hA h1 hn
  go_enter Try.func42, Try.ntmps42
  go_wp2_with fail
  go_loopw [6, 7] (fun ov iv wr => ∃ k : Nat, k ≤ n ∧ iv = .int .i64 k ∧ ov = .bool (parity A.testBit k) ∧ wr = w) (fun _ iv _ => n - (intOf iv).toNat)
  case atStart => exact ⟨0, Nat.zero_le _, rfl, rfl, rfl⟩
  case round =>
    obtain ⟨k, hk, rfl, rfl, rfl⟩ := hrel
    by_cases hlt : k < n
    · have hki : (k : Int) < n := by omega
      have hk0 : (0 : Int) ≤ k := by omega
      have hat : (bools (rl n A.testBit))[k]? = some (.bool (A.testBit k)) := by rw [bools_at _ _ (by rw [rl_length]; exact hlt), rl_getD _ _ _ hlt]
      obtain ⟨b, o, e⟩ := HAb.out.sl hat
      subst e
      have g := HAb.out.cell hat
      have HP : Hid (parity A.testBit (k + 1) = (parity A.testBit k != A.testBit k)) := Lib.hid rfl
      have HLT := Lib.hid hlt
      generalize parity A.testBit k = pk at *
      generalize A.testBit k = ak at *
      clear hat hlt hk
      go_wp2_with fail
      go_roundw
      case rel => exact ⟨k + 1, by have := HLT.out; omega, by go_num, by rw [HP.out]; cases pk <;> cases ak <;> rfl, by first | rfl | trivial⟩
      case measure => simp [intOf]; omega
    · obtain rfl : k = n := by omega
      obtain ⟨q, hq⟩ : ∃ q, parity A.testBit k = q := ⟨_, rfl⟩
      have HQ := Lib.hid hq
      clear hlt hk hq
      go_wp2_with fail
      refine (nnot HA.out (by have := HN.out; omega)).mono ?_; rintro e w3 ⟨v3, rfl, h3, hb3⟩
      obtain ⟨p3, c3, rfl⟩ := h3.form
      have H3 := Lib.hid (nany h3 HN.out.2)
      have HW3 := Lib.hid hb3
      obtain ⟨z, hz⟩ : ∃ z, nz (notN k A) = z := ⟨_, rfl⟩
      rw [hz] at H3
      have HZ := Lib.hid hz
      clear h3 hb3 hz
      go_wp2_with fail
      refine H3.out.mono ?_; rintro e w4 ⟨rfl, rfl⟩
      go_wp2_with fail
      refine (none_one _ _).mono ?_; rintro e w9 ⟨v9, rfl, h9, hb9⟩
      have HF := Lib.hid (And.intro h9 (HW3.out.trans (hb9.mono HW3.out.size)))
      clear h9 hb9
      go_wp2_with fail
      go_ret2
      exact ⟨_, rfl, by rw [HZ.out]; exact HF.out.1, HF.out.2⟩

set_option maxRecDepth 100000 in
set_option maxHeartbeats 8000000 in
theorem run_3 {w : World} {va : Value} {n A : Nat} (hA : LN w va n A) (h1 : 1 ≤ n) (hn : n ≤ 128) : Calls Try.prog 42 #[.int .i64 3, va] w (RetNE w 1 (b2n (nz A)) 0) := by
  have hni : (n : Int) ≤ 128 := by omega
  have hn0 : ((n : Int) == 0) = false := by simp; omega
  have HN := Lib.hid (And.intro h1 hn)
  have HA := Lib.hid hA
  have HAb := Lib.hid hA.bits
  obtain ⟨pa, ca, rfl⟩ := hA.form
  clear hA h1 hn
  go_enter Try.func42, Try.ntmps42
  go_wp2_with fail
  go_loopw [6, 7] (fun ov iv wr => ∃ k : Nat, k ≤ n ∧ iv = .int .i64 k ∧ ov = .bool (parity A.testBit k) ∧ wr = w) (fun _ iv _ => n - (intOf iv).toNat)
  case atStart => exact ⟨0, Nat.zero_le _, rfl, rfl, rfl⟩
  case round =>
    obtain ⟨k, hk, rfl, rfl, rfl⟩ := hrel
    by_cases hlt : k < n
    · have hki : (k : Int) < n := by omega
      have hk0 : (0 : Int) ≤ k := by omega
      have hat : (bools (rl n A.testBit))[k]? = some (.bool (A.testBit k)) := by rw [bools_at _ _ (by rw [rl_length]; exact hlt), rl_getD _ _ _ hlt]
      obtain ⟨b, o, e⟩ := HAb.out.sl hat
      subst e
      have g := HAb.out.cell hat
      have HP : Hid (parity A.testBit (k + 1) = (parity A.testBit k != A.testBit k)) := Lib.hid rfl
      have HLT := Lib.hid hlt
      generalize parity A.testBit k = pk at *
      generalize A.testBit k = ak at *
      clear hat hlt hk
      go_wp2_with fail
      go_roundw
      case rel => exact ⟨k + 1, by have := HLT.out; omega, by go_num, by rw [HP.out]; cases pk <;> cases ak <;> rfl, by first | rfl | trivial⟩
      case measure => simp [intOf]; omega
    · obtain rfl : k = n := by omega
      obtain ⟨q, hq⟩ : ∃ q, parity A.testBit k = q := ⟨_, rfl⟩
      have HQ := Lib.hid hq
      rw [hq]
      clear hlt hk hq
      go_wp2_with fail
      obtain ⟨z, hz⟩ : ∃ z, nz A = z := ⟨_, rfl⟩
      have H3 := nany HA.out HN.out.2
      rw [hz] at H3
      have HZ := Lib.hid hz
      refine H3.mono ?_; rintro e w4 ⟨rfl, rfl⟩
      clear hz H3
      go_wp2_with fail
      refine (none_one _ _).mono ?_; rintro e w9 ⟨v9, rfl, h9, hb9⟩
      have HF := Lib.hid (And.intro h9 hb9)
      clear h9 hb9
      go_wp2_with fail
      go_ret2
      exact ⟨_, rfl, by rw [HZ.out]; exact HF.out.1, HF.out.2⟩

set_option maxRecDepth 100000 in
set_option maxHeartbeats 8000000 in
theorem run_5 {w : World} {va : Value} {n A : Nat} (hA : LN w va n A) (h1 : 1 ≤ n) (hn : n ≤ 128) : Calls Try.prog 42 #[.int .i64 5, va] w (RetNE w 1 (b2n (!nz A)) 0) := by
  have hni : (n : Int) ≤ 128 := by omega
  have hn0 : ((n : Int) == 0) = false := by simp; omega
  have HN := Lib.hid (And.intro h1 hn)
  have HA := Lib.hid hA
  have HAb := Lib.hid hA.bits
  obtain ⟨pa, ca, rfl⟩ := hA.form
  clear hA h1 hn
  go_enter Try.func42, Try.ntmps42
  go_wp2_with fail
  go_loopw [6, 7] (fun ov iv wr => ∃ k : Nat, k ≤ n ∧ iv = .int .i64 k ∧ ov = .bool (parity A.testBit k) ∧ wr = w) (fun _ iv _ => n - (intOf iv).toNat)
  case atStart => exact ⟨0, Nat.zero_le _, rfl, rfl, rfl⟩
  case round =>
    obtain ⟨k, hk, rfl, rfl, rfl⟩ := hrel
    by_cases hlt : k < n
    · have hki : (k : Int) < n := by omega
      have hk0 : (0 : Int) ≤ k := by omega
      have hat : (bools (rl n A.testBit))[k]? = some (.bool (A.testBit k)) := by rw [bools_at _ _ (by rw [rl_length]; exact hlt), rl_getD _ _ _ hlt]
      obtain ⟨b, o, e⟩ := HAb.out.sl hat
      subst e
      have g := HAb.out.cell hat
      have HP : Hid (parity A.testBit (k + 1) = (parity A.testBit k != A.testBit k)) := Lib.hid rfl
      have HLT := Lib.hid hlt
      generalize parity A.testBit k = pk at *
      generalize A.testBit k = ak at *
      clear hat hlt hk
      go_wp2_with fail
      go_roundw
      case rel => exact ⟨k + 1, by have := HLT.out; omega, by go_num, by rw [HP.out]; cases pk <;> cases ak <;> rfl, by first | rfl | trivial⟩
      case measure => simp [intOf]; omega
    · obtain rfl : k = n := by omega
      obtain ⟨q, hq⟩ : ∃ q, parity A.testBit k = q := ⟨_, rfl⟩
      have HQ := Lib.hid hq
      rw [hq]
      clear hlt hk hq
      go_wp2_with fail
      obtain ⟨z, hz⟩ : ∃ z, nz A = z := ⟨_, rfl⟩
      have H3 := nany HA.out HN.out.2
      rw [hz] at H3
      have HZ := Lib.hid hz
      refine H3.mono ?_; rintro e w4 ⟨rfl, rfl⟩
      clear hz H3
      go_wp2_with fail
      refine (none_one _ _).mono ?_; rintro e w9 ⟨v9, rfl, h9, hb9⟩
      have HF := Lib.hid (And.intro h9 hb9)
      clear h9 hb9
      go_wp2_with fail
      go_ret2
      exact ⟨_, rfl, by rw [HZ.out]; exact HF.out.1, HF.out.2⟩

set_option maxRecDepth 100000 in
set_option maxHeartbeats 8000000 in
theorem run_4 {w : World} {va : Value} {n A : Nat} (hA : LN w va n A) (h1 : 1 ≤ n) (hn : n ≤ 128) : Calls Try.prog 42 #[.int .i64 4, va] w (RetNE w 1 (b2n (parity A.testBit n)) 0) := by
  have hni : (n : Int) ≤ 128 := by omega
  have hn0 : ((n : Int) == 0) = false := by simp; omega
  have HN := Lib.hid (And.intro h1 hn)
  have HA := Lib.hid hA
  have HAb := Lib.hid hA.bits
  obtain ⟨pa, ca, rfl⟩ := hA.form
  clear hA h1 hn
  go_enter Try.func42, Try.ntmps42
  go_wp2_with fail
  go_loopw [6, 7] (fun ov iv wr => ∃ k : Nat, k ≤ n ∧ iv = .int .i64 k ∧ ov = .bool (parity A.testBit k) ∧ wr = w) (fun _ iv _ => n - (intOf iv).toNat)
  case atStart => exact ⟨0, Nat.zero_le _, rfl, rfl, rfl⟩
  case round =>
    obtain ⟨k, hk, rfl, rfl, rfl⟩ := hrel
    by_cases hlt : k < n
    · have hki : (k : Int) < n := by omega
      have hk0 : (0 : Int) ≤ k := by omega
      have hat : (bools (rl n A.testBit))[k]? = some (.bool (A.testBit k)) := by rw [bools_at _ _ (by rw [rl_length]; exact hlt), rl_getD _ _ _ hlt]
      obtain ⟨b, o, e⟩ := HAb.out.sl hat
      subst e
      have g := HAb.out.cell hat
      have HP : Hid (parity A.testBit (k + 1) = (parity A.testBit k != A.testBit k)) := Lib.hid rfl
      have HLT := Lib.hid hlt
      generalize parity A.testBit k = pk at *
      generalize A.testBit k = ak at *
      clear hat hlt hk
      go_wp2_with fail
      go_roundw
      case rel => exact ⟨k + 1, by have := HLT.out; omega, by go_num, by rw [HP.out]; cases pk <;> cases ak <;> rfl, by first | rfl | trivial⟩
      case measure => simp [intOf]; omega
    · obtain rfl : k = n := by omega
      obtain ⟨q, hq⟩ : ∃ q, parity A.testBit k = q := ⟨_, rfl⟩
      have HQ := Lib.hid hq
      rw [hq]
      clear hlt hk hq
      go_wp2_with fail
      refine (none_one _ _).mono ?_; rintro e w9 ⟨v9, rfl, h9, hb9⟩
      have HF := Lib.hid (And.intro h9 hb9)
      clear h9 hb9
      go_wp2_with fail
      go_ret2
      exact ⟨_, rfl, by rw [HQ.out]; exact HF.out.1, HF.out.2⟩

set_option maxRecDepth 100000 in
set_option maxHeartbeats 4000000 in
theorem run_inval {w : World} {va : Value} {n A : Nat} (hA : LN w va n A) (k : Int) (hk : k < 0 ∨ 5 < k) : Calls Try.prog 42 #[.int .i64 k, va] w (RetNE w 0 0 1) := by
  obtain ⟨pa, ca, rfl⟩ := hA.form
  have HZ : Hid (LN w (.slice none 0 0) 0 0) := Lib.hid ⟨fun _ => false, ⟨rfl, _, _, rfl, fun j u hj => by simp [rl, bools] at hj⟩, rfl⟩
  clear hA
  rcases hk with hk | hk
  · go_enter Try.func42, Try.ntmps42
    go_wp2_with fail
    go_ret2
    exact ⟨_, rfl, HZ.out, Below.refl _ _⟩
  · have h0 : (0 : Int) ≤ k := by omega
    go_enter Try.func42, Try.ntmps42
    go_wp2_with fail
    go_ret2
    exact ⟨_, rfl, HZ.out, Below.refl _ _⟩
set_option maxRecDepth 100000 in
set_option maxHeartbeats 4000000 in
theorem run_width {w : World} {va : Value} {A : Nat} (hA : LN w va 0 A) (k : Int) (hk : 0 ≤ k ∧ k ≤ 5) : Calls Try.prog 42 #[.int .i64 k, va] w (RetNE w 0 0 2) := by
  obtain ⟨pa, ca, rfl⟩ := hA.form
  have HZ : Hid (LN w (.slice none 0 0) 0 0) := Lib.hid ⟨fun _ => false, ⟨rfl, _, _, rfl, fun j u hj => by simp [rl, bools] at hj⟩, rfl⟩
  obtain ⟨h0, h5⟩ := hk
  clear hA
  go_enter Try.func42, Try.ntmps42
  go_wp2_with fail
  go_ret2
  exact ⟨_, rfl, HZ.out, Below.refl _ _⟩
theorem un_both {n A : Nat} (hn : n ≤ 128) (k : Int) : ∃ (N X : Nat) (err : Int),
    (∀ W va, VR W va n A → Calls Try.prog 33 #[.int .i64 k, va] W (RetE W N X err)) ∧ (∀ W va, LN W va n A → Calls Try.prog 42 #[.int .i64 k, va] W (RetNE W N X err)) := by
  by_cases h1 : k < 0 ∨ 5 < k
  · exact ⟨0, 0, 1, fun W va ha => un_inval ha k h1, fun W va ha => run_inval ha k h1⟩
  by_cases h2 : n = 0
  · subst h2
    exact ⟨0, 0, 2, fun W va ha => un_width ha k (by omega), fun W va ha => run_width ha k (by omega)⟩
  have h0 : 1 ≤ n := by omega
  have hk : k = 0 ∨ k = 1 ∨ k = 2 ∨ k = 3 ∨ k = 4 ∨ k = 5 := by omega
  rcases hk with rfl | rfl | rfl | rfl | rfl | rfl
  · exact ⟨_, _, 0, fun W va ha => un_0 ha h0, fun W va ha => run_0 ha h0 hn⟩
  · exact ⟨_, _, 0, fun W va ha => un_1 ha h0, fun W va ha => run_1 ha h0 hn⟩
  · exact ⟨_, _, 0, fun W va ha => un_2 ha h0, fun W va ha => run_2 ha h0 hn⟩
  · exact ⟨_, _, 0, fun W va ha => un_3 ha h0, fun W va ha => run_3 ha h0 hn⟩
  · exact ⟨_, _, 0, fun W va ha => un_4 ha h0, fun W va ha => run_4 ha h0 hn⟩
  · exact ⟨_, _, 0, fun W va ha => un_5 ha h0, fun W va ha => run_5 ha h0 hn⟩
end Go.Proofs.Ytmimafbedbohiaa
