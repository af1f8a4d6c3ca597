import Derived.Test.YtmimafbedbohiaaA9
namespace Go.Proofs.Ytmimafbedbohiaa
set_option linter.unusedVariables false
open Go.RowKit

set_option maxRecDepth 100000 in
set_option maxHeartbeats 4000000 in
theorem less_any {w : World} {va vb : Value} {n A B : Nat} (hA : VR w va n A) (hB : VR w vb n B) : Calls Try.prog 87 #[va, vb] w fun e w' => e = .returned (.bool (decide (A < B))) ∧ Below w.heap.size w w' := by
  have HA := Lib.hid hA
  have HB := Lib.hid hB
  have hn128 := hA.le
  have hA64 : A < 2 ^ (64 * wcount n) := Nat.lt_of_lt_of_le hA.lt (Nat.pow_le_pow_right (by decide) (n_le_words n))
  have hB64 : B < 2 ^ (64 * wcount n) := Nat.lt_of_lt_of_le hB.lt (Nat.pow_le_pow_right (by decide) (n_le_words n))
  have HLW := Lib.hid (fun i => less_words hA64 hB64 i)
  have HWE := Lib.hid (words_ext hA64 hB64)
  obtain ⟨pa, ca, rfl, ra⟩ := hA.ex
  obtain ⟨pb, cb, rfl, rb⟩ := hB.ex
  have HM := Lib.hid (show wcount n ≤ 3 by unfold wcount; omega)
  have hmi : (wcount n : Int) ≤ 3 := by have := HM.out; omega
  clear hA hB ra rb hn128 hA64 hB64
  go_enter Try.func87, Try.ntmps87
  go_wp2_with fail
  have k0 := (Blk.new (w := w) 26 [.int .i64 n, .slice pa (wcount n) ca]).alloc (.cells #[.int .i64 n, .slice pb (wcount n) cb] 26)
  have k1 := Blk.new (w := w.alloc (.cells #[.int .i64 n, .slice pa (wcount n) ca] 26)) 26 [.int .i64 n, .slice pb (wcount n) cb]
  have hb3 : Below w.heap.size w ((w.alloc (.cells #[.int .i64 n, .slice pa (wcount n) ca] 26)).alloc (.cells #[.int .i64 n, .slice pb (wcount n) cb] 26)) := (Below.new _ _).alloc (by simp) _
  simp only [World.size_alloc] at k1
  generalize (w.alloc (.cells #[.int .i64 n, .slice pa (wcount n) ca] 26)).alloc (.cells #[.int .i64 n, .slice pb (wcount n) cb] 26) = W at *
  have HK := Lib.hid (And.intro k0 (And.intro k1 hb3))
  clear k0 k1 hb3
  go_loopw [5] (fun t wr => ∃ i : Int, t = .int .i64 i ∧ -1 ≤ i ∧ i < wcount n ∧ (∀ j : Nat, i < j → j < wcount n → word A j = word B j) ∧ Below W.heap.size W wr) (fun t _ => (intOf t + 1).toNat)
  case atStart => exact ⟨_, rfl, by omega, by omega, fun j h1 h2 => by omega, Below.refl _ _⟩
  case round =>
    obtain ⟨i, rfl, hi1, hi2, heq, hbel⟩ := hrel
    have HR := Lib.hid (And.intro heq hbel)
    by_cases h0 : 0 ≤ i
    · obtain ⟨k, rfl⟩ : ∃ k : Nat, i = k := ⟨i.toNat, by omega⟩
      have hlt : k < wcount n := by omega
      have hbw : Below w.heap.size w wr := HK.out.2.2.trans (hbel.mono HK.out.2.2.size)
      obtain ⟨ba, oa, ca', ea, fa⟩ := (HA.out.below hbw).word hlt
      obtain ⟨bb, ob, cb', eb, fb⟩ := (HB.out.below hbw).word hlt
      simp only [Value.agg.injEq, Array.mk.injEq, List.cons.injEq, Value.slice.injEq, true_and, and_true] at ea eb
      obtain ⟨rfl, rfl⟩ := ea
      obtain ⟨rfl, rfl⟩ := eb
      have x1 := (HK.out.1.next hbel).cell (i := 1) rfl
      have x2 := (HK.out.2.1.next hbel).cell (i := 1) rfl
      have HL := Lib.hid (HLW.out k (fun j h1 h2 => heq j (by omega) h2))
      have HX := Lib.hid (show (fun j => word A j = word B j) k ↔ word A k = word B k from Iff.rfl)
      generalize word A k = wa at *
      generalize word B k = wb at *
      clear heq hbel hbw
      by_cases hne : wa = wb
      · have hne' : ((wa : Int) != (wb : Int)) = false := by simp [hne]
        have HE := Lib.hid (HX.out.2 hne)
        clear hne
        go_wp2_with fail
        go_quiet (fail)
        go_wp2_with fail
        go_roundw
        case rel => exact ⟨_, rfl, by omega, by omega, fun j h1 h2 => by
                      by_cases e : j = k
                      · subst e; exact HE.out
                      · exact HR.out.1 j (by omega) h2, HR.out.2.trans (below_drewN _)⟩
        case measure => simp [intOf]
      · have hne' : ((wa : Int) != (wb : Int)) = true := by simp; omega
        have HE := Lib.hid (HL.out hne)
        clear hne
        go_wp2_with fail
        go_quiet (fail)
        go_wp2_with fail
        go_quiet (fail)
        go_wp2_with fail
        go_ret
        refine ⟨?_, (HK.out.2.2.trans (HR.out.2.mono HK.out.2.2.size)).trans ((below_drewN _).trans (below_drewN _))⟩
        have : decide (A < B) = decide (wa < wb) := by
          rw [Bool.eq_iff_iff, decide_eq_true_eq, decide_eq_true_eq, HE.out]
        rw [this]; rfl
    · obtain rfl : i = -1 := by omega
      have HAB := Lib.hid (HWE.out fun j hj => heq j (by omega) hj)
      clear heq hbel h0
      go_wp2_with fail
      go_ret
      exact ⟨by rw [HAB.out]; simp, HK.out.2.2.trans (HR.out.2.mono HK.out.2.2.size)⟩
theorem and_fn (x y : Nat) (hx : x < 2 ^ 64) (hy : y < 2 ^ 64) (w : World) : Calls Try.prog 52 #[.int .u64 x, .int .u64 y] w fun e w' => e = .returned (.int .u64 ((x &&& y : Nat) : Int)) ∧ w = w' := by
  have h := Lib.hid (u64_and_nat x y hx hy)
  go_enter Try.func52, Try.ntmps52
  go_wp2_with fail
  go_ret
  exact ⟨by rw [← h.out]; rfl, rfl⟩
theorem or_fn (x y : Nat) (hx : x < 2 ^ 64) (hy : y < 2 ^ 64) (w : World) : Calls Try.prog 53 #[.int .u64 x, .int .u64 y] w fun e w' => e = .returned (.int .u64 ((x ||| y : Nat) : Int)) ∧ w = w' := by
  have h := Lib.hid (u64_or_nat x y hx hy)
  go_enter Try.func53, Try.ntmps53
  go_wp2_with fail
  go_ret
  exact ⟨by rw [← h.out]; rfl, rfl⟩
theorem xor_fn (x y : Nat) (hx : x < 2 ^ 64) (hy : y < 2 ^ 64) (w : World) : Calls Try.prog 54 #[.int .u64 x, .int .u64 y] w fun e w' => e = .returned (.int .u64 ((x ^^^ y : Nat) : Int)) ∧ w = w' := by
  have h := Lib.hid (u64_xor_nat x y hx hy)
  go_enter Try.func54, Try.ntmps54
  go_wp2_with fail
  go_ret
  exact ⟨by rw [← h.out]; rfl, rfl⟩
end Go.Proofs.Ytmimafbedbohiaa
