import Derived.Test.YtonippdileikbaaA18
namespace Go.Proofs.Ytonippdileikbaa
set_option linter.unusedVariables false
open Go.RowKit

/-- the order of places, as the law has it -/
def ltP (a b c x y z : Int) : Bool := if a ≠ x then decide (a < x) else if b ≠ y then decide (b < y) else decide (c < z)
theorem less_is (a b c x y z : Int) : decide (orI [cmpI a x, cmpI b y, cmpI c z] < 0) = ltP a b c x y z := by
  unfold ltP
  simp only [orI, cmpI]
  repeat' split
  all_goals simp_all
  all_goals omega
theorem ltP_self (a b c : Int) : ltP a b c a b c = false := by simp [ltP]
theorem ltP_trans {a b c x y z p q r : Int} (h : ltP a b c x y z = true) (k : ltP x y z p q r = true) : ltP a b c p q r = true := by
  unfold ltP at *
  by_cases e1 : a = x <;> by_cases e2 : b = y <;> by_cases e3 : x = p <;> by_cases e4 : y = q <;> by_cases e5 : a = p <;> by_cases e6 : b = q <;> simp_all <;> omega

theorem less' (a b c x y z : Int) (w : World) : Calls Try.prog 23 #[.agg #[.int .i64 a, .int .i64 b, .int .i64 c], .agg #[.int .i64 x, .int .i64 y, .int .i64 z]] w fun e w' => e = .returned (.bool (ltP a b c x y z)) ∧ Below w.heap.size w w' := by
  have := less_any a b c x y z w
  rwa [less_is] at this

set_option maxHeartbeats 1000000 in
theorem law_less (a b c x y z : Int) (w : World) : Calls Try.prog 22 #[.agg #[.int .i64 a, .int .i64 b, .int .i64 c], .agg #[.int .i64 x, .int .i64 y, .int .i64 z]] w fun e w' => e = .returned (.bool (ltP a b c x y z)) ∧ Below w.heap.size w w' := by
  have hb : Hid (∀ O1 O2, Below w.heap.size w ((w.alloc O1).alloc O2)) := Lib.hid fun O1 O2 => ((Below.refl w.heap.size w).alloc (Nat.le_refl _) _).alloc (by simp) _
  by_cases h1 : a = x
  · subst h1
    by_cases h2 : b = y
    · subst h2
      have hL : ltP a b c a b z = decide (c < z) := by simp [ltP]
      rw [hL]
      clear hL
      go_enter Try.func22, Try.ntmps22
      go_wp2_with fail
      go_ret
      exact ⟨rfl, hb.out _ _⟩
    · have hL : ltP a b c a y z = decide (b < y) := by simp [ltP, h2]
      rw [hL]
      have h2' : (b != y) = true := by simp [h2]
      clear hL h2
      go_enter Try.func22, Try.ntmps22
      go_wp2_with fail
      go_ret
      exact ⟨rfl, hb.out _ _⟩
  · have hL : ltP a b c x y z = decide (a < x) := by simp [ltP, h1]
    rw [hL]
    have h1' : (a != x) = true := by simp [h1]
    clear hL h1
    go_enter Try.func22, Try.ntmps22
    go_wp2_with fail
    go_ret
    exact ⟨rfl, hb.out _ _⟩

set_option maxHeartbeats 4000000 in
theorem orders_any (a b c x y z p q r : Int) (w : World) : Calls Try.prog 7 #[.agg #[.int .i64 a, .int .i64 b, .int .i64 c], .agg #[.int .i64 x, .int .i64 y, .int .i64 z], .agg #[.int .i64 p, .int .i64 q, .int .i64 r]] w fun e w' => e = .returned (.bool true) ∧ Below w.heap.size w w' := by
  have HA := Lib.hid (fun w => awake_any w)
  have L1 := Lib.hid (fun w => less' a b c x y z w)
  have L2 := Lib.hid (fun w => less' x y z a b c w)
  have L3 : Hid (∀ w, Calls Try.prog 23 #[.agg #[.int .i64 a, .int .i64 b, .int .i64 c], .agg #[.int .i64 a, .int .i64 b, .int .i64 c]] w fun e w' => e = .returned (.bool false) ∧ Below w.heap.size w w') := Lib.hid (fun w => by have := less' a b c a b c w; rwa [ltP_self] at this)
  have L4 := Lib.hid (fun w => less' x y z p q r w)
  have L5 := Lib.hid (fun w => less' a b c p q r w)
  have M1 := Lib.hid (fun w => law_less a b c x y z w)
  have M2 := Lib.hid (fun w => law_less x y z a b c w)
  have ht := @ltP_trans a b c x y z p q r
  generalize ltP a b c x y z = u1 at *
  generalize ltP x y z a b c = u2 at *
  generalize ltP x y z p q r = u4 at *
  generalize ltP a b c p q r = u5 at *
  have HT := Lib.hid ht
  clear ht
  go_enter Try.func7, Try.ntmps7
  go_wp2_with fail
  have k1 : Blk (((w.alloc (.cells #[.int .i64 a, .int .i64 b, .int .i64 c] 44)).alloc (.cells #[.int .i64 x, .int .i64 y, .int .i64 z] 44)).alloc (.cells #[.int .i64 p, .int .i64 q, .int .i64 r] 44)) w.heap.size 44 [.int .i64 a, .int .i64 b, .int .i64 c] := ((Blk.new 44 [.int .i64 a, .int .i64 b, .int .i64 c]).alloc _).alloc _
  have k2 : Blk (((w.alloc (.cells #[.int .i64 a, .int .i64 b, .int .i64 c] 44)).alloc (.cells #[.int .i64 x, .int .i64 y, .int .i64 z] 44)).alloc (.cells #[.int .i64 p, .int .i64 q, .int .i64 r] 44)) (w.heap.size + 1) 44 [.int .i64 x, .int .i64 y, .int .i64 z] := by
    have := (Blk.new (w := w.alloc (.cells #[.int .i64 a, .int .i64 b, .int .i64 c] 44)) 44 [.int .i64 x, .int .i64 y, .int .i64 z]).alloc (.cells #[.int .i64 p, .int .i64 q, .int .i64 r] 44)
    rw [World.size_alloc] at this; exact this
  have k3 : Blk (((w.alloc (.cells #[.int .i64 a, .int .i64 b, .int .i64 c] 44)).alloc (.cells #[.int .i64 x, .int .i64 y, .int .i64 z] 44)).alloc (.cells #[.int .i64 p, .int .i64 q, .int .i64 r] 44)) (w.heap.size + 1 + 1) 44 [.int .i64 p, .int .i64 q, .int .i64 r] := by
    have := (Blk.new (w := (w.alloc (.cells #[.int .i64 a, .int .i64 b, .int .i64 c] 44)).alloc (.cells #[.int .i64 x, .int .i64 y, .int .i64 z] 44)) 44 [.int .i64 p, .int .i64 q, .int .i64 r])
    rw [World.size_alloc, World.size_alloc] at this; exact this
  have hbW : Below w.heap.size w (((w.alloc (.cells #[.int .i64 a, .int .i64 b, .int .i64 c] 44)).alloc (.cells #[.int .i64 x, .int .i64 y, .int .i64 z] 44)).alloc (.cells #[.int .i64 p, .int .i64 q, .int .i64 r] 44)) := (((Below.refl w.heap.size w).alloc (Nat.le_refl _) _).alloc (by simp) _).alloc (by simp; omega) _
  generalize ((w.alloc (.cells #[.int .i64 a, .int .i64 b, .int .i64 c] 44)).alloc (.cells #[.int .i64 x, .int .i64 y, .int .i64 z] 44)).alloc (.cells #[.int .i64 p, .int .i64 q, .int .i64 r] 44) = W at *
  have HK := Lib.hid (And.intro k1 (And.intro k2 (And.intro k3 hbW)))
  clear k1 k2 k3 hbW
  refine (HA.out _).mono ?_; rintro e w1 ⟨rfl, hb⟩
  have a0 := After.cell ((HK.out.1.below hb HK.out.1.lt).cell (i := 0) rfl)
  have a1 := After.cell ((HK.out.1.below hb HK.out.1.lt).cell (i := 1) rfl)
  have a2 := After.cell ((HK.out.1.below hb HK.out.1.lt).cell (i := 2) rfl)
  have b0 := After.cell ((HK.out.2.1.below hb HK.out.2.1.lt).cell (i := 0) rfl)
  have b1 := After.cell ((HK.out.2.1.below hb HK.out.2.1.lt).cell (i := 1) rfl)
  have b2 := After.cell ((HK.out.2.1.below hb HK.out.2.1.lt).cell (i := 2) rfl)
  have c0 := After.cell ((HK.out.2.2.1.below hb HK.out.2.2.1.lt).cell (i := 0) rfl)
  have c1 := After.cell ((HK.out.2.2.1.below hb HK.out.2.2.1.lt).cell (i := 1) rfl)
  have c2 := After.cell ((HK.out.2.2.1.below hb HK.out.2.2.1.lt).cell (i := 2) rfl)
  have HB := Lib.hid (HK.out.2.2.2.trans (hb.mono HK.out.2.2.2.size))
  clear hb HK
  go_wp2_with fail
  clear HA
  have hc : u1 = false ∨ (u1 = true ∧ u4 = false) ∨ (u1 = true ∧ u4 = true ∧ u5 = true) := by
    cases u1
    · exact .inl rfl
    · cases u4
      · exact .inr (.inl ⟨rfl, rfl⟩)
      · exact .inr (.inr ⟨rfl, rfl, HT.out rfl rfl⟩)
  clear HT
  rcases hc with rfl | ⟨rfl, rfl⟩ | ⟨rfl, rfl, rfl⟩
  all_goals
    refine wp_region_after (by kernel_rfl) (by kernel_rfl) ?_
    repeat (go_big_quiet_step ((first | (with_reducible exact Calls.after_of (L1.out _)) | (with_reducible exact Calls.after_of (L2.out _)) | (with_reducible exact Calls.after_of (M1.out _)) | (with_reducible exact Calls.after_of (M2.out _)) | (with_reducible exact Calls.after_of (L3.out _)) | (with_reducible exact Calls.after_of (L4.out _)) | (with_reducible exact Calls.after_of (L5.out _)))))
    refine wpQuiet_nil ?_
    rintro _ ⟨s, rfl⟩
    go_wp2_with fail
    go_ret
    exact ⟨rfl, HB.out.trans (s.below.mono HB.out.size)⟩
end Go.Proofs.Ytonippdileikbaa
