import Derived.Test.YtmimafbedbohiaaR2
import Derived.Test.YtmimafbedbohiaaA56
namespace Go.Proofs.Ytmimafbedbohiaa
set_option linter.unusedVariables false
open Go.RowKit

theorem times_step {A B n k : Nat} : (A * (B % 2 ^ k) % 2 ^ n + A * 2 ^ k % 2 ^ n + 0) % 2 ^ n = A * (B % 2 ^ k + 2 ^ k) % 2 ^ n := by
  rw [Nat.add_zero, Nat.mod_add_mod, Nat.add_mod_mod, Nat.mul_add]
theorem mod_next (B k : Nat) : B % 2 ^ (k + 1) = B % 2 ^ k + (if B.testBit k then 2 ^ k else 0) := by
  rw [Nat.pow_succ, Nat.mod_mul, Nat.testBit_eq_decide_div_mod_eq]
  have h := Nat.mod_lt (B / 2 ^ k) (show 0 < 2 by decide)
  by_cases e : B / 2 ^ k % 2 = 1
  · simp [e]
  · have : B / 2 ^ k % 2 = 0 := by omega
    simp [this]

set_option maxRecDepth 100000 in
set_option maxHeartbeats 8000000 in
theorem ntimes {w : World} {va vb : Value} {n A B : Nat} (hA : LN w va n A) (hB : LN w vb n B) (hn : n ≤ 128) : Calls Try.prog 66 #[va, vb] w (RetN w n (A * B % 2 ^ n)) := by
  have hni : (n : Int) ≤ 128 := by omega
  have HA := Lib.hid hA
  have HB := Lib.hid hB.bits
  have HBL := Lib.hid hB.lt
  have HN := Lib.hid hn
  obtain ⟨pa, ca, rfl⟩ := hA.form
  obtain ⟨pb, cb, rfl⟩ := hB.form
  have hmk := fun w => mk_bools n (by omega) w
  clear hA hB hn
  go_enter Try.func66, Try.ntmps66
  go_wp2_with fail
  have hk := Blk.new (w := w) 4 (bools (List.replicate n false))
  have hb : Below w.heap.size w (w.alloc (.cells (bools (List.replicate n false)).toArray 4)) := Below.new _ _
  have HS : Hid (LN (w.alloc (.cells (bools (List.replicate n false)).toArray 4)) (.slice (some ⟨w.heap.size, 0, none⟩) n n) n 0) := Lib.hid ⟨fun _ => false, RO.ofBlk (by rw [rl_false]; exact hk), ofB_none _ _ (fun _ _ => rfl)⟩
  have HW := Lib.hid hb
  clear hk hb hmk
  generalize w.alloc (.cells (bools (List.replicate n false)).toArray 4) = W at *
  go_loopw [5, 6] (fun vo iv wr => ∃ k : Nat, k ≤ n ∧ iv = .int .i64 k ∧ LN wr vo n (A * (B % 2 ^ k) % 2 ^ n) ∧ Below w.heap.size w wr) (fun _ iv _ => n - (intOf iv).toNat)
  case atStart => exact ⟨0, Nat.zero_le _, rfl, by simpa [Nat.mod_one] using HS.out, HW.out⟩
  case round =>
    obtain ⟨k, hk, rfl, hL, hbel⟩ := hrel
    obtain ⟨po, co, rfl⟩ := hL.form
    have HR := Lib.hid (And.intro hL hbel)
    clear hL
    by_cases hlt : k < n
    · have hki : (k : Int) < n := by omega
      have hk0 : (0 : Int) ≤ k := by omega
      have HLT := Lib.hid hlt
      have hat : (bools (rl n B.testBit))[k]? = some (.bool (B.testBit k)) := by rw [bools_at _ _ (by rw [rl_length]; exact hlt), rl_getD _ _ _ hlt]
      obtain ⟨b, o, e⟩ := HB.out.sl hat
      subst e
      have g := (HB.out.below hbel).cell hat
      have HNx := Lib.hid (mod_next B k)
      generalize B.testBit k = q at *
      clear hat hbel hlt
      cases q
      · go_wp2_with fail
        go_roundw
        case rel => exact ⟨k + 1, by have := HLT.out; omega, by go_num, by have h := HNx.out; rw [if_neg (by decide), Nat.add_zero] at h; rw [h]; exact HR.out.1, HR.out.2⟩
        case measure => simp [intOf]; omega
      · go_wp2_with fail
        refine (nmove (k : Int) false (by omega) (by omega) (HA.out.below HR.out.2) (Nat.le_succ_of_le HN.out)).mono ?_; rintro e w1 ⟨v1, rfl, h1, hb1⟩
        rw [move_up (Nat.le_of_lt HLT.out)] at h1
        obtain ⟨p1, c1, rfl⟩ := h1.form
        have HR1 := Lib.hid (And.intro h1 (And.intro (HR.out.1.below hb1) (HR.out.2.trans (hb1.mono HR.out.2.size))))
        clear h1 hb1 g
        go_wp2_with fail
        refine (nplus false HR1.out.2.1 HR1.out.1 (Nat.le_succ_of_le HN.out)).mono ?_; rintro e w2 ⟨v2, rfl, h2, hb2⟩
        rw [if_neg (by decide), times_step] at h2
        obtain ⟨p2, c2, rfl⟩ := h2.form
        have HR2 := Lib.hid (And.intro h2 (HR1.out.2.2.trans (hb2.mono HR1.out.2.2.size)))
        clear h2 hb2
        go_wp2_with fail
        go_roundw
        case rel => exact ⟨k + 1, by have := HLT.out; omega, by go_num, by have h := HNx.out; simp only [if_true] at h; rw [h]; exact HR2.out.1, HR2.out.2⟩
        case measure => simp [intOf]; omega
    · obtain rfl : k = n := by omega
      clear hlt hk
      go_wp2_with fail
      go_ret
      exact ⟨_, rfl, by have h := HR.out.1; rwa [Nat.mod_eq_of_lt HBL.out] at h, HR.out.2⟩
end Go.Proofs.Ytmimafbedbohiaa
