import Derived.Test.YtmimafbedbohiaaA14
namespace Go.Proofs.Ytmimafbedbohiaa
set_option linter.unusedVariables false
open Go.RowKit

set_option maxRecDepth 100000 in
set_option maxHeartbeats 2000000 in
theorem eqwords_any {w : World} {va vb : Value} {m A B : Nat} (ra : RO w va 1 m (wordsV m A)) (rb : RO w vb 1 m (wordsV m B)) (hm : m ≤ 100) (hA : A < 2 ^ (64 * m)) (hB : B < 2 ^ (64 * m)) :
    Calls Try.prog 63 #[va, vb] w fun e w' => e = .returned (.bool (decide (A = B))) ∧ Below w.heap.size w w' := by
  obtain ⟨pa, ca, rfl⟩ := ra.form
  obtain ⟨pb, cb, rfl⟩ := rb.form
  have hmi : (m : Int) ≤ 100 := by omega
  have HX := Lib.hid (words_ext hA hB)
  have HR := Lib.hid (And.intro ra rb)
  clear ra rb hm hA hB
  go_enter Try.func63, Try.ntmps63
  go_wp2_with fail
  go_loopw [13] (fun i wr => ∃ k : Nat, k ≤ m ∧ i = .int .i64 k ∧ (∀ j, j < k → word A j = word B j) ∧ Below w.heap.size w wr) (fun i _ => m - (intOf i).toNat)
  case atStart => exact ⟨0, Nat.zero_le _, rfl, fun j hj => absurd hj (Nat.not_lt_zero _), Below.refl _ _⟩
  case round =>
    obtain ⟨k, hk, rfl, hno, hbel⟩ := hrel
    have HN := Lib.hid (And.intro hno hbel)
    by_cases hlt : k < m
    · have ra := HR.out.1.below hbel
      have rb := HR.out.2.below hbel
      obtain ⟨ba, oa, rfl⟩ := ra.sl (wordsV_at hlt)
      obtain ⟨bb, ob, rfl⟩ := rb.sl (wordsV_at hlt)
      have fa := ra.cell (wordsV_at hlt)
      have fb := rb.cell (wordsV_at hlt)
      have hki : (k : Int) < m := by omega
      have HW := Lib.hid (show (fun j => word A j = word B j) k ↔ word A k = word B k from Iff.rfl)
      generalize word A k = wa at *
      generalize word B k = wb at *
      clear hno hbel ra rb
      by_cases hne : wa = wb
      · have hne' : ((wa : Int) != (wb : Int)) = false := by simp [hne]
        have HE := Lib.hid (HW.out.2 hne)
        clear hne
        go_wp2_with fail
        go_quiet (fail)
        go_wp2_with fail
        go_roundw
        case rel => exact ⟨k + 1, by omega, by go_num, fun j hj => by
                      by_cases e : j = k
                      · subst e; exact HE.out
                      · exact HN.out.1 j (by omega), HN.out.2.trans (below_drewN _)⟩
        case measure => simp [intOf]; omega
      · have hne' : ((wa : Int) != (wb : Int)) = true := by simp; omega
        have HE := Lib.hid (fun h => hne (HW.out.1 h))
        clear hne
        go_wp2_with fail
        go_quiet (fail)
        go_wp2_with fail
        go_ret
        have : decide (A = B) = false := by
          rw [decide_eq_false_iff_not]
          intro h
          exact HE.out (by subst h; rfl)
        exact ⟨by rw [this]; rfl, HN.out.2.trans (below_drewN _)⟩
    · obtain rfl : k = m := by omega
      have hAB := HX.out hno
      have HAB := Lib.hid hAB
      clear hno hbel hlt hAB
      go_wp2_with fail
      go_ret
      exact ⟨by rw [decide_eq_true HAB.out]; rfl, HN.out.2⟩

theorem vr64 {w v n x} (h : VR w v n x) : x < 2 ^ (64 * wcount n) := Nat.lt_of_lt_of_le h.lt (Nat.pow_le_pow_right (by decide) (n_le_words n))
set_option maxRecDepth 100000 in
set_option maxHeartbeats 2000000 in
theorem equal_any {w : World} {va vb : Value} {n m A B : Nat} (hA : VR w va n A) (hB : VR w vb m B) : Calls Try.prog 26 #[va, vb] w fun e w' => e = .returned (.bool (decide (n = m ∧ A = B))) ∧ Below w.heap.size w w' := by
  have hni : (n : Int) ≤ 128 := by have := hA.le; omega
  have hmi : (m : Int) ≤ 128 := by have := hB.le; omega
  by_cases hnm : n = m
  · subst hnm
    have h1 := vr64 hA
    have h2 := vr64 hB
    obtain ⟨pa, ca, rfl, ra⟩ := hA.ex
    obtain ⟨pb, cb, rfl, rb⟩ := hB.ex
    have hbel : ∀ o1 o2, Below w.heap.size w ((w.alloc o1).alloc o2) := fun o1 o2 => (Below.new _ _).alloc (by simp) _
    have HE := Lib.hid (fun o1 o2 => eqwords_any (ra.below (hbel o1 o2)) (rb.below (hbel o1 o2)) (by unfold wcount; have := hA.le; omega) h1 h2)
    have HB := Lib.hid hbel
    have hd : decide (n = n ∧ A = B) = decide (A = B) := by simp
    rw [hd]
    clear hA hB ra rb h1 h2 hbel hd
    go_enter Try.func26, Try.ntmps26
    go_wp2_with fail
    refine (HE.out _ _).mono ?_; rintro e w1 ⟨rfl, hb⟩
    have HH := Lib.hid ((HB.out _ _).trans (hb.mono (by simp; omega)))
    clear hb
    go_wp2_with fail
    go_ret
    exact ⟨rfl, HH.out⟩
  · have hd : decide (n = m ∧ A = B) = false := by simp [hnm]
    have hne : ((n : Int) == (m : Int)) = false := by simp; omega
    rw [hd]
    obtain ⟨pa, ca, rfl, ra⟩ := hA.ex
    obtain ⟨pb, cb, rfl, rb⟩ := hB.ex
    clear hA hB ra rb hd hnm
    go_enter Try.func26, Try.ntmps26
    go_wp2_with fail
    go_ret
    exact ⟨rfl, (Below.new _ _).alloc (by simp) _⟩
end Go.Proofs.Ytmimafbedbohiaa
