import Derived.Test.YtmimafbedbohiaaA57
import Derived.Test.YtmimafbedbohiaaB11
import Derived.Test.YtmimafbedbohiaaB9
import Derived.Test.YtmimafbedbohiaaB10
import Derived.Deep.CutRange
import Derived.Deep.QuietTactic
import Derived.BigQuiet
namespace Go.Proofs.Ytmimafbedbohiaa
set_option linter.unusedVariables false
open Go.RowKit

set_option maxRecDepth 100000 in
set_option maxHeartbeats 16000000 in
theorem numbers_law {w : World} (s : Int) (hs : -9223372036854775808 ≤ s ∧ s ≤ 9223372036854775807) (a b : Nat) (ha : a < 2 ^ 64) (hb : b < 2 ^ 64) :
    Calls Try.prog 3 #[.int .i64 s, .int .u64 a, .int .u64 b] w fun e w' => e = .returned (.bool true) ∧ Below w.heap.size w w' := by
  have HAw := Lib.hid (awake_any w)
  have HAB := Lib.hid (And.intro ha hb)
  clear ha hb
  go_enter Try.func3, Try.ntmps3
  go_wp2_with fail
  refine HAw.out.mono ?_; rintro e w1 ⟨rfl, hb1⟩
  have HB1 := Lib.hid hb1
  clear hb1
  go_upto_region 3 with fail
  go_cut [0] from 20 (fun v0 wx => ∃ n : Nat, v0 = .int .i64 n ∧ 1 ≤ n ∧ n ≤ 31 ∧ wx = w1)
  case first =>
    by_cases h1 : s ≤ 1
    · have hm : (if s < 31 then s else 31) ≤ 1 := by split <;> omega
      go_wp2_with fail
      all_goals first
        | (go_meet; exact ⟨1, rfl, by omega, by omega, rfl⟩)
        | trace_state
    · by_cases h2 : s ≤ 31
      · obtain ⟨n, rfl⟩ : ∃ n : Nat, s = n := ⟨s.toNat, by omega⟩
        go_wp2_with fail
        all_goals first
          | (go_meet; exact ⟨n, rfl, by omega, by omega, rfl⟩)
          | trace_state
      · go_wp2_with fail
        all_goals first
          | (go_meet; exact ⟨31, rfl, by omega, by omega, rfl⟩)
          | trace_state
  case rest =>
    obtain ⟨n, rfl, h1, h31, rfl⟩ := hcut
    obtain ⟨Q, hQ⟩ : ∃ Q, 2 ^ n = Q := ⟨_, rfl⟩
    have hQ0 : (1 : Int) ≤ Q := by have : 0 < 2 ^ n := Nat.pow_pos (by decide); omega
    have hQ1 : (Q : Int) ≤ 2147483648 := by have : 2 ^ n ≤ 2 ^ 31 := Nat.pow_le_pow_right (by decide) h31; omega
    have hni : (n : Int) ≤ 31 := by omega
    have h2 : ((2 : Int) ^ n) = (Q : Int) := by rw [← hQ]; simp
    have hw0 : IntKind.u64.wrap (Q : Int) = (Q : Int) := by rw [IntKind.wrap_u64]; omega
    have HQ := Lib.hid hQ
    clear hQ
    go_upto_region 5 with fail
    go_quiet (fail)
    have hwd := below_drewN (B := wc.heap.size) (w := wc) nq
    have HT1 := Lib.hid ((Tr.nil w).below HB1.out |>.below hwd)
    generalize wc.drewN nq = W1 at *
    obtain ⟨A, hA⟩ : ∃ A, a % Q = A := ⟨_, rfl⟩
    obtain ⟨B, hB⟩ : ∃ B, b % Q = B := ⟨_, rfl⟩
    have hAi : ((a : Int) % (Q : Int)) = (A : Int) := by rw [← hA]; simp
    have hBi : ((b : Int) % (Q : Int)) = (B : Int) := by rw [← hB]; simp
    have hAQ : (A : Int) < Q := by have : a % Q < Q := Nat.mod_lt _ (by omega); omega
    have hBQ : (B : Int) < Q := by have : b % Q < Q := Nat.mod_lt _ (by omega); omega
    simp only [hAi, hBi]
    have HNew : Hid (∀ (w' : World) (q A : Nat), A < 2 ^ n → w'.heap.size = q → Calls Try.prog 14 #[.int .i64 n, .slice (some ⟨q, 0, none⟩) 1 1] (w'.alloc (.cells #[.int .u64 A] 22)) (RetE (w'.alloc (.cells #[.int .u64 A] 22)) n A 0)) := Lib.hid fun w' q A hA hq => by
      subst hq
      have := new_good (w := w'.alloc (.cells (natsV [A]).toArray 22)) (l := [A]) n h1 (by omega) _ (RO.lits (Blk.new 22 (natsV [A]))) (by
        have : 2 ^ n ≤ 2 ^ 31 := Nat.pow_le_pow_right (by decide) h31
        simp; omega)
      simp only [valW, Nat.mul_zero, Nat.add_zero] at this
      rwa [Nat.mod_eq_of_lt hA] at this
    have HA2 := Lib.hid (show A < 2 ^ n by rw [HQ.out]; omega)
    have HB2 := Lib.hid (show B < 2 ^ n by rw [HQ.out]; omega)
    have HN := Lib.hid (And.intro (show 0 < n by omega) (show n ≤ 128 by omega))
    have hAB0 : 0 ≤ (A : Int) * B := Int.mul_nonneg (by omega) (by omega)
    have hAB1 : (A : Int) * B ≤ 2147483648 * 2147483648 := Int.mul_le_mul (by omega) (by omega) (by omega) (by omega)
    have hw1 : IntKind.u64.wrap ((A : Int) + B) = (A : Int) + B := by rw [IntKind.wrap_u64]; omega
    have hw2 : IntKind.u64.wrap ((A : Int) + Q) = (A : Int) + Q := by rw [IntKind.wrap_u64]; omega
    have hw3 : IntKind.u64.wrap ((A : Int) + Q - B) = (A : Int) + Q - B := by rw [IntKind.wrap_u64]; omega
    have hw4 : IntKind.u64.wrap ((A : Int) * B) = (A : Int) * B := by rw [IntKind.wrap_u64]; omega
    clear hA hB hAi hBi h1 h31 HAB hwd HAw HB1 hs
    go_wp2_with fail
    refine (HNew.out _ _ _ HA2.out rfl).mono ?_; rintro e w2 ⟨vx, rfl, hvx, hb2, _⟩
    obtain ⟨px, cx, rfl, _⟩ := hvx.ex
    have HT2 := Lib.hid ((HT1.out.below (Below.then (Below.new _ _) hb2 (Nat.le_refl _))).lay 26 [.int .i64 n, .slice px (wcount n) cx])
    have HX2 := Lib.hid (hvx.below (Below.new w2 (.cells #[.int .i64 n, .slice px (wcount n) cx] 26)))
    have HS2 := Lib.hid (show (w2.alloc (.cells #[Value.int .i64 n, .slice px (wcount n) cx] 26)).heap.size = w2.heap.size + 1 by simp)
    clear hvx hb2
    go_wp2_with fail
    generalize w2.alloc (.cells #[Value.int .i64 n, .slice px (wcount n) cx] 26) = W2 at *
    refine (HNew.out _ _ _ HB2.out HS2.out).mono ?_; rintro e w3 ⟨vy, rfl, hvy, hb3, _⟩
    obtain ⟨py, cy, rfl, _⟩ := hvy.ex
    have HBn := Lib.hid (Below.new w3 (.cells #[.int .i64 n, .slice py (wcount n) cy] 26))
    have HT3 := Lib.hid ((HT2.out.below (Below.then (Below.new _ _) hb3 (Nat.le_refl _))).lay 26 [.int .i64 n, .slice py (wcount n) cy])
    have HX3 := Lib.hid ((HX2.out.below (Below.then (Below.new _ _) hb3 (Nat.le_refl _))).below HBn.out)
    have HY3 := Lib.hid (hvy.below HBn.out)
    clear hvy hb3 HX2 HT2 HNew HT1
    have hR0 : ∃ R : Nat, (A + B + 0) % 2 ^ n = R ∧ IntKind.i64.wrap (((A : Int) + B) % Q) = (R : Int) := ⟨_, rfl, by
      rw [HQ.out, IntWalk.i64_in]
      · simp
      · have h1 := Int.emod_nonneg ((A : Int) + B) (show (Q : Int) ≠ 0 by omega)
        have h2 := Int.emod_lt_of_pos ((A : Int) + B) (show 0 < (Q : Int) by omega)
        omega⟩
    have hR1 : ∃ R : Nat, (A + notN n B + 1) % 2 ^ n = R ∧ IntKind.i64.wrap (((A : Int) + Q - B) % Q) = (R : Int) := ⟨_, rfl, by
      have hBn := HB2.out
      unfold notN
      rw [HQ.out] at hBn ⊢
      rw [IntWalk.i64_in]
      · rw [show A + (Q - 1 - B) + 1 = A + Q - B by omega]
        rw [show ((A : Int) + Q - B) = ((A + Q - B : Nat) : Int) by omega]; simp
      · have h1 := Int.emod_nonneg ((A : Int) + Q - B) (show (Q : Int) ≠ 0 by omega)
        have h2 := Int.emod_lt_of_pos ((A : Int) + Q - B) (show 0 < (Q : Int) by omega)
        omega⟩
    have hR2 : ∃ R : Nat, A * B % 2 ^ n = R ∧ IntKind.i64.wrap (((A : Int) * B) % Q) = (R : Int) := ⟨_, rfl, by
      rw [HQ.out, IntWalk.i64_in]
      · simp
      · have h1 := Int.emod_nonneg ((A : Int) * B) (show (Q : Int) ≠ 0 by omega)
        have h2 := Int.emod_lt_of_pos ((A : Int) * B) (show 0 < (Q : Int) by omega)
        omega⟩
    obtain ⟨R0, hR0, hz0⟩ := hR0
    obtain ⟨R1, hR1, hz1⟩ := hR1
    obtain ⟨R2, hR2, hz2⟩ := hR2
    have HR := Lib.hid (And.intro hR0 (And.intro hR1 hR2))
    clear hR0 hR1 hR2
    have HNum : Hid (∀ (w' : World) (v : Value) (X : Nat), VR w' v n X → Calls Try.prog 16 #[v, .int .i64 1099511627776] w' fun e w'' => e = .returned (.int .i64 X) ∧ Below w'.heap.size w' w'') := Lib.hid fun w' v X hv => by
      have hX := hv.lt
      have hq : 2 ^ n ≤ 2147483648 := by rw [HQ.out]; omega
      have := num_any hv 1099511627776 (by decide)
      rwa [show min (X : Int) (max 1099511627776 0) = (X : Int) by omega] at this
    go_upto_region 10 with fail
    generalize w3.alloc (.cells #[Value.int .i64 n, .slice py (wcount n) cy] 26) = W3 at *
    go_wp2_with fail
    go_loopw [69] (fun iv wr => ∃ k : Nat, k ≤ 3 ∧ iv = .int .i64 k ∧ Tr w [(w3.heap.size, 26, [.int .i64 n, .slice py (wcount n) cy]), (w2.heap.size, 26, [.int .i64 n, .slice px (wcount n) cx])] wr ∧ VR wr (.agg #[.int .i64 n, .slice px (wcount n) cx]) n A ∧ VR wr (.agg #[.int .i64 n, .slice py (wcount n) cy]) n B) (fun iv _ => 3 - (intOf iv).toNat)
    case atStart => exact ⟨0, by omega, rfl, HT3.out, HX3.out, HY3.out⟩
    case round =>
      obtain ⟨k, hk, rfl, hT, hx, hy⟩ := hrel
      have HT4 := Lib.hid hT
      have HV4 := Lib.hid (And.intro hx hy)
      clear hT hx hy
      match k, hk with
      | 0, _ =>
        have c0 := (HT4.out.pr 0 rfl).1
        have c1 := (HT4.out.pr 0 rfl).2
        have d0 := (HT4.out.pr 1 rfl).1
        have d1 := (HT4.out.pr 1 rfl).2
        clear HT3 HX3 HY3 hk
        have i0 : ∀ (x0 x1 x2 : Int) (w : World), (Instr.index 30 (.agg #[.int .u64 x0, .int .u64 x1, .int .u64 x2]) (.int .i64 0)).run Try.prog w = .ok (.int .u64 x0) w := fun _ _ _ _ => by kernel_rfl
        go_wp2_with fail
        refine (bin_0 HV4.out.1 HV4.out.2 HN.out.1).mono ?_; rintro e w5 ⟨v5, rfl, hv5, hb5, _⟩
        rw [HR.out.1] at hv5
        obtain ⟨p5, c5, rfl, _⟩ := hv5.ex
        have HBn := Lib.hid (Below.new w5 (.cells #[.int .i64 n, .slice p5 (wcount n) c5] 26))
        have HT5 := Lib.hid ((HT4.out.below hb5).lay 26 [.int .i64 n, .slice p5 (wcount n) c5])
        have HV5 := Lib.hid (And.intro ((HV4.out.1.below hb5).below HBn.out) (And.intro ((HV4.out.2.below hb5).below HBn.out) (hv5.below HBn.out)))
        clear hv5 hb5 c0 c1 d0 d1
        go_upto_region 14 with fail
        generalize w5.alloc (.cells #[Value.int .i64 n, .slice p5 (wcount n) c5] 26) = W5 at *
        have K1 := Lib.hid (fun s : After W5 => HNum.out s.val _ _ (HV5.out.2.2.below s.below))
        have a0 := After.cell (HT5.out.pr 0 rfl).1
        have a1 := After.cell (HT5.out.pr 0 rfl).2
        refine wp_region_after (by kernel_rfl) (by kernel_rfl) ?_
        repeat (go_big_quiet_step ((first | (with_reducible exact Calls.after_of (K1.out _)))))
        refine wpQuiet_nil ?_
        rintro _ ⟨s, rfl⟩
        have HT6 := Lib.hid (HT5.out.below s.below)
        have HV6 := Lib.hid (And.intro (HV5.out.1.below s.below) (HV5.out.2.1.below s.below))
        generalize s.val = W6 at *
        clear a0 a1 K1 HT5 HV5 HBn
        go_wp2_with fail
        go_roundw
        case rel => exact ⟨1, by omega, by go_num, HT6.out.subs (by simp) (by have := HT6.out.nd; simp at this ⊢; omega), HV6.out.1, HV6.out.2⟩
        case measure => simp [intOf]
      | 1, _ =>
        have c0 := (HT4.out.pr 0 rfl).1
        have c1 := (HT4.out.pr 0 rfl).2
        have d0 := (HT4.out.pr 1 rfl).1
        have d1 := (HT4.out.pr 1 rfl).2
        clear HT3 HX3 HY3 hk
        have i0 : ∀ (x0 x1 x2 : Int) (w : World), (Instr.index 30 (.agg #[.int .u64 x0, .int .u64 x1, .int .u64 x2]) (.int .i64 1)).run Try.prog w = .ok (.int .u64 x1) w := fun _ _ _ _ => by kernel_rfl
        go_wp2_with fail
        refine (bin_1 HV4.out.1 HV4.out.2 HN.out.1).mono ?_; rintro e w5 ⟨v5, rfl, hv5, hb5, _⟩
        rw [HR.out.2.1] at hv5
        obtain ⟨p5, c5, rfl, _⟩ := hv5.ex
        have HBn := Lib.hid (Below.new w5 (.cells #[.int .i64 n, .slice p5 (wcount n) c5] 26))
        have HT5 := Lib.hid ((HT4.out.below hb5).lay 26 [.int .i64 n, .slice p5 (wcount n) c5])
        have HV5 := Lib.hid (And.intro ((HV4.out.1.below hb5).below HBn.out) (And.intro ((HV4.out.2.below hb5).below HBn.out) (hv5.below HBn.out)))
        clear hv5 hb5 c0 c1 d0 d1
        go_upto_region 14 with fail
        generalize w5.alloc (.cells #[Value.int .i64 n, .slice p5 (wcount n) c5] 26) = W5 at *
        have K1 := Lib.hid (fun s : After W5 => HNum.out s.val _ _ (HV5.out.2.2.below s.below))
        have a0 := After.cell (HT5.out.pr 0 rfl).1
        have a1 := After.cell (HT5.out.pr 0 rfl).2
        refine wp_region_after (by kernel_rfl) (by kernel_rfl) ?_
        repeat (go_big_quiet_step ((first | (with_reducible exact Calls.after_of (K1.out _)))))
        refine wpQuiet_nil ?_
        rintro _ ⟨s, rfl⟩
        have HT6 := Lib.hid (HT5.out.below s.below)
        have HV6 := Lib.hid (And.intro (HV5.out.1.below s.below) (HV5.out.2.1.below s.below))
        generalize s.val = W6 at *
        clear a0 a1 K1 HT5 HV5 HBn
        go_wp2_with fail
        go_roundw
        case rel => exact ⟨2, by omega, by go_num, HT6.out.subs (by simp) (by have := HT6.out.nd; simp at this ⊢; omega), HV6.out.1, HV6.out.2⟩
        case measure => simp [intOf]
      | 2, _ =>
        have c0 := (HT4.out.pr 0 rfl).1
        have c1 := (HT4.out.pr 0 rfl).2
        have d0 := (HT4.out.pr 1 rfl).1
        have d1 := (HT4.out.pr 1 rfl).2
        clear HT3 HX3 HY3 hk
        have i0 : ∀ (x0 x1 x2 : Int) (w : World), (Instr.index 30 (.agg #[.int .u64 x0, .int .u64 x1, .int .u64 x2]) (.int .i64 2)).run Try.prog w = .ok (.int .u64 x2) w := fun _ _ _ _ => by kernel_rfl
        go_wp2_with fail
        refine (bin_2 HV4.out.1 HV4.out.2 HN.out.1).mono ?_; rintro e w5 ⟨v5, rfl, hv5, hb5, _⟩
        rw [HR.out.2.2] at hv5
        obtain ⟨p5, c5, rfl, _⟩ := hv5.ex
        have HBn := Lib.hid (Below.new w5 (.cells #[.int .i64 n, .slice p5 (wcount n) c5] 26))
        have HT5 := Lib.hid ((HT4.out.below hb5).lay 26 [.int .i64 n, .slice p5 (wcount n) c5])
        have HV5 := Lib.hid (And.intro ((HV4.out.1.below hb5).below HBn.out) (And.intro ((HV4.out.2.below hb5).below HBn.out) (hv5.below HBn.out)))
        clear hv5 hb5 c0 c1 d0 d1
        go_upto_region 14 with fail
        generalize w5.alloc (.cells #[Value.int .i64 n, .slice p5 (wcount n) c5] 26) = W5 at *
        have K1 := Lib.hid (fun s : After W5 => HNum.out s.val _ _ (HV5.out.2.2.below s.below))
        have a0 := After.cell (HT5.out.pr 0 rfl).1
        have a1 := After.cell (HT5.out.pr 0 rfl).2
        refine wp_region_after (by kernel_rfl) (by kernel_rfl) ?_
        repeat (go_big_quiet_step ((first | (with_reducible exact Calls.after_of (K1.out _)))))
        refine wpQuiet_nil ?_
        rintro _ ⟨s, rfl⟩
        have HT6 := Lib.hid (HT5.out.below s.below)
        have HV6 := Lib.hid (And.intro (HV5.out.1.below s.below) (HV5.out.2.1.below s.below))
        generalize s.val = W6 at *
        clear a0 a1 K1 HT5 HV5 HBn
        go_wp2_with fail
        go_roundw
        case rel => exact ⟨3, by omega, by go_num, HT6.out.subs (by simp) (by have := HT6.out.nd; simp at this ⊢; omega), HV6.out.1, HV6.out.2⟩
        case measure => simp [intOf]
      | 3, _ =>
        have c0 := (HT4.out.pr 0 rfl).1
        have c1 := (HT4.out.pr 0 rfl).2
        have d0 := (HT4.out.pr 1 rfl).1
        have d1 := (HT4.out.pr 1 rfl).2
        clear HT3 HX3 HY3 hk
        go_wp2_with fail
        obtain ⟨DQ, hDQ⟩ : ∃ D, divOp 3 n A B = D := ⟨_, rfl⟩
        obtain ⟨DR, hDR⟩ : ∃ D, divOp 4 n A B = D := ⟨_, rfl⟩
        have HD := Lib.hid (And.intro hDQ hDR)
        clear hDQ hDR
        refine (bin_3 HV4.out.1 HV4.out.2 HN.out.1).mono ?_; rintro e w5 ⟨v5, rfl, hv5, hb5⟩
        obtain ⟨p5, c5, rfl, _⟩ := hv5.ex
        have HBn5 := Lib.hid (Below.new w5 (.cells #[.int .i64 n, .slice p5 (wcount n) c5] 26))
        rw [HD.out.1] at hv5
        have HT5 := Lib.hid ((HT4.out.below hb5).lay 26 [.int .i64 n, .slice p5 (wcount n) c5])
        have HV5 := Lib.hid (And.intro ((HV4.out.1.below hb5).below HBn5.out) ((HV4.out.2.below hb5).below HBn5.out))
        have HQ5 := Lib.hid (hv5.below HBn5.out)
        have c0 := (HT5.out.pr 1 rfl).1
        have c1 := (HT5.out.pr 1 rfl).2
        have d0 := (HT5.out.pr 2 rfl).1
        have d1 := (HT5.out.pr 2 rfl).2
        clear hv5 hb5
        go_wp2_with fail
        generalize w5.alloc (.cells #[Value.int .i64 n, .slice p5 (wcount n) c5] 26) = W5 at *
        refine (bin_4 HV5.out.1 HV5.out.2 HN.out.1).mono ?_; rintro e w6 ⟨v6, rfl, hv6, hb6⟩
        obtain ⟨p6, c6, rfl, _⟩ := hv6.ex
        have HBn6 := Lib.hid (Below.new w6 (.cells #[.int .i64 n, .slice p6 (wcount n) c6] 26))
        rw [HD.out.2] at hv6
        have HT6 := Lib.hid ((HT5.out.below hb6).lay 26 [.int .i64 n, .slice p6 (wcount n) c6])
        have HV6 := Lib.hid (And.intro ((HV5.out.1.below hb6).below HBn6.out) ((HV5.out.2.below hb6).below HBn6.out))
        have HQ6 := Lib.hid (And.intro ((HQ5.out.below hb6).below HBn6.out) (hv6.below HBn6.out))
        clear hv6 hb6 c0 c1 d0 d1
        go_upto_region 21 with fail
        generalize w6.alloc (.cells #[Value.int .i64 n, .slice p6 (wcount n) c6] 26) = W6 at *
        have K1 := Lib.hid (fun s : After W6 => HNum.out s.val _ _ (HQ6.out.1.below s.below))
        have K2 := Lib.hid (fun s : After W6 => HNum.out s.val _ _ (HQ6.out.2.below s.below))
        have a0 := After.cell (HT6.out.pr 0 rfl).1
        have a1 := After.cell (HT6.out.pr 0 rfl).2
        have b0 := After.cell (HT6.out.pr 1 rfl).1
        have b1 := After.cell (HT6.out.pr 1 rfl).2
        go_cut [131] from 20 (fun v131 wx => v131 = .bool false ∧ ∃ s : After W6, wx = s.val)
        case first =>
          by_cases hB0 : B = 0
          · have hbf : ((B : Int) != 0) = false := by simp [hB0]
            refine wp_region_after (by kernel_rfl) (by kernel_rfl) ?_
            repeat (go_big_quiet_step ((first | (with_reducible exact Calls.after_of (K1.out _)) | (with_reducible exact Calls.after_of (K2.out _)))))
            refine wpQuiet_nil ?_
            rintro _ ⟨s, rfl⟩
            go_wp2_with fail
            go_meet
            exact ⟨rfl, s, rfl⟩
          · have hbt : ((B : Int) != 0) = true := by simp; omega
            have hB1 : ((B : Int) == 0) = false := by simp; omega
            have hq1 : DQ = A / B := by rw [← HD.out.1]; unfold divOp divN; simp [hB0]
            have hr1 : DR = A % B := by rw [← HD.out.2]; unfold divOp; simp
            have hAl : A < 2147483648 := by omega
            have hz5 : IntKind.u64.wrap ((A : Int) / B) = (DQ : Int) := by
              rw [hq1]
              have h9 : A / B ≤ A := Nat.div_le_self _ _
              rw [show (A : Int) / B = ((A / B : Nat) : Int) by simp, IntKind.wrap_u64]; omega
            have hz3 : wrap64 (DQ : Int) = (DQ : Int) := by
              have h9 : A / B ≤ A := Nat.div_le_self _ _
              rw [← hq1] at h9; unfold wrap64; omega
            have hz4 : wrap64 ((A : Int) % B) = (DR : Int) := by
              have h9 : A % B ≤ A := Nat.mod_le _ _
              rw [show (A : Int) % B = ((A % B : Nat) : Int) by simp, ← hr1]
              rw [← hr1] at h9; unfold wrap64; omega
            clear hq1 hr1 hAl
            refine wp_region_after (by kernel_rfl) (by kernel_rfl) ?_
            repeat (go_big_quiet_step ((first | (with_reducible exact Calls.after_of (K1.out _)) | (with_reducible exact Calls.after_of (K2.out _)))))
            refine wpQuiet_nil ?_
            rintro _ ⟨s, rfl⟩
            go_wp2_with fail
            go_meet
            exact ⟨rfl, s, rfl⟩
        case rest =>
          obtain ⟨rfl, s, rfl⟩ := hcut
          have HT7 := Lib.hid (HT6.out.below s.below)
          have HV7 := Lib.hid (And.intro (HV6.out.1.below s.below) (HV6.out.2.below s.below))
          generalize s.val = W7 at *
          have c0 := (HT7.out.pr 2 rfl).1
          have c1 := (HT7.out.pr 2 rfl).2
          have d0 := (HT7.out.pr 3 rfl).1
          have d1 := (HT7.out.pr 3 rfl).2
          clear a0 a1 b0 b1 K1 K2 HT5 HT6 HV5 HV6 HQ5 HQ6
          go_wp2_with fail
          refine (bin_15 HV7.out.1 HV7.out.2 HN.out.1).mono ?_; rintro e w8 ⟨v8, rfl, hv8, hb8, _⟩
          obtain ⟨p8, c8, rfl, _⟩ := hv8.ex
          have HBn8 := Lib.hid (Below.new w8 (.cells #[.int .i64 1, .slice p8 (wcount 1) c8] 26))
          have hv8 : VR w8 (.agg #[.int .i64 1, .slice p8 (wcount 1) c8]) 1 (b2n (decide (A < B))) := hv8
          have HT8 := Lib.hid ((HT7.out.below hb8).lay 26 [.int .i64 1, .slice p8 (wcount 1) c8])
          have HV8 := Lib.hid (And.intro ((HV7.out.1.below hb8).below HBn8.out) ((HV7.out.2.below hb8).below HBn8.out))
          have HQ8 := Lib.hid (hv8.below HBn8.out)
          have c0 := (HT8.out.pr 3 rfl).1
          have c1 := (HT8.out.pr 3 rfl).2
          have d0 := (HT8.out.pr 4 rfl).1
          have d1 := (HT8.out.pr 4 rfl).2
          clear hv8 hb8
          go_wp2_with fail
          generalize w8.alloc (.cells #[Value.int .i64 1, .slice p8 (wcount 1) c8] 26) = W8 at *
          refine (bin_13 HV8.out.1 HV8.out.2 HN.out.1).mono ?_; rintro e w9 ⟨v9, rfl, hv9, hb9, _⟩
          obtain ⟨p9, c9, rfl, _⟩ := hv9.ex
          have HBn9 := Lib.hid (Below.new w9 (.cells #[.int .i64 1, .slice p9 (wcount 1) c9] 26))
          have hv9 : VR w9 (.agg #[.int .i64 1, .slice p9 (wcount 1) c9]) 1 (b2n (decide (A = B))) := hv9
          have HT9 := Lib.hid ((HT8.out.below hb9).lay 26 [.int .i64 1, .slice p9 (wcount 1) c9])
          have HQ9 := Lib.hid (And.intro ((HQ8.out.below hb9).below HBn9.out) (hv9.below HBn9.out))
          obtain ⟨qa, hqa⟩ : ∃ q, decide (A < B) = q := ⟨_, rfl⟩
          obtain ⟨qb, hqb⟩ : ∃ q, ((A : Int) == (B : Int)) = q := ⟨_, rfl⟩
          have hqb2 : (A == B) = qb := by rw [← hqb, Bool.eq_iff_iff]; simp; omega
          have hqb3 : decide (A = B) = qb := by rw [← hqb, Bool.eq_iff_iff]; simp; omega
          have HB8 : Hid (∀ (w' : World), VR w' (.agg #[.int .i64 1, .slice p8 (wcount 1) c8]) 1 (b2n (decide (A < B))) → Calls Try.prog 17 #[.agg #[.int .i64 1, .slice p8 (wcount 1) c8], .int .i64 0] w' fun e w'' => e = .returned (.bool qa) ∧ Below w'.heap.size w' w'') := Lib.hid fun w' hv => by
            have := bit_any hv 0
            rwa [show bitI (b2n (decide (A < B))) 0 = qa by rw [← hqa]; by_cases h : A < B <;> simp [bitI, b2n, h]] at this
          have HB9 : Hid (∀ (w' : World), VR w' (.agg #[.int .i64 1, .slice p9 (wcount 1) c9]) 1 (b2n (decide (A = B))) → Calls Try.prog 17 #[.agg #[.int .i64 1, .slice p9 (wcount 1) c9], .int .i64 0] w' fun e w'' => e = .returned (.bool qb) ∧ Below w'.heap.size w' w'') := Lib.hid fun w' hv => by
            have := bit_any hv 0
            rwa [show bitI (b2n (decide (A = B))) 0 = qb by rw [← hqb]; by_cases h : A = B <;> simp [bitI, b2n, h]; omega] at this
          have c0 := (HT9.out.pr 1 rfl).1
          have c1 := (HT9.out.pr 1 rfl).2
          clear hv9 hb9 d0 d1
          go_wp2_with fail
          generalize w9.alloc (.cells #[Value.int .i64 1, .slice p9 (wcount 1) c9] 26) = W9 at *
          refine (HB8.out _ HQ9.out.1).mono ?_; rintro e w10 ⟨rfl, hb10⟩
          have HT10 := Lib.hid (HT9.out.below hb10)
          have HQ10 := Lib.hid (HQ9.out.2.below hb10)
          have c0 := (HT10.out.pr 0 rfl).1
          have c1 := (HT10.out.pr 0 rfl).2
          clear hb10
          go_wp2_with fail
          refine (HB9.out _ HQ10.out).mono ?_; rintro e w11 ⟨rfl, hb11⟩
          have HT11 := Lib.hid (HT10.out.below hb11)
          clear hb11
          go_wp2_with fail
          go_ret
          exact ⟨rfl, HT11.out.bel⟩
theorem numbers_int {w : World} (s x y : Int) (hs : -9223372036854775808 ≤ s ∧ s ≤ 9223372036854775807) (hx : 0 ≤ x ∧ x ≤ 18446744073709551615) (hy : 0 ≤ y ∧ y ≤ 18446744073709551615) :
    Calls Try.prog 3 #[.int .i64 s, .int .u64 x, .int .u64 y] w fun e w' => e = .returned (.bool true) ∧ Below w.heap.size w w' := by
  obtain ⟨a, rfl⟩ : ∃ a : Nat, x = a := ⟨x.toNat, by omega⟩
  obtain ⟨b, rfl⟩ : ∃ b : Nat, y = b := ⟨y.toNat, by omega⟩
  exact numbers_law s hs a b (by omega) (by omega)
theorem u64_bd {n : Int} (h : (Lit.int .u64 n).wf = true) : 0 ≤ n ∧ n ≤ 18446744073709551615 := by
  simp [Lit.wf, IntKind.min, IntKind.max, IntKind.signed, IntKind.bits] at h
  omega

end Go.Proofs.Ytmimafbedbohiaa
