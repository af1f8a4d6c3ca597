import Derived.Test.YtonippdileikbaaA4
import Derived.StillTailTactics
namespace Go.Proofs.Ytonippdileikbaa
set_option linter.unusedVariables false
open Go.RowKit

theorem Blk.drew {w : World} {b t l} (h : Blk w b t l) : Blk w.drew b t l := h

set_option maxHeartbeats 2000000 in
theorem less_any (a b c x y z : Int) (w : World) : Calls Try.prog 23 #[.agg #[.int .i64 a, .int .i64 b, .int .i64 c], .agg #[.int .i64 x, .int .i64 y, .int .i64 z]] w fun e w' => e = .returned (.bool (decide (orI [cmpI a x, cmpI b y, cmpI c z] < 0))) ∧ Below w.heap.size w w' := by
  have H1 : Hid (∀ w, Calls Try.prog 35 #[.int .i64 a, .int .i64 x] w fun e w' => e = .returned (.int .i64 (cmpI a x)) ∧ w' = w) := Lib.hid (fun w => (compare_any a x w).mono fun _ _ ⟨h, k⟩ => ⟨h, k.symm⟩)
  have H2 : Hid (∀ w, Calls Try.prog 35 #[.int .i64 b, .int .i64 y] w fun e w' => e = .returned (.int .i64 (cmpI b y)) ∧ w' = w) := Lib.hid (fun w => (compare_any b y w).mono fun _ _ ⟨h, k⟩ => ⟨h, k.symm⟩)
  have H3 : Hid (∀ w, Calls Try.prog 35 #[.int .i64 c, .int .i64 z] w fun e w' => e = .returned (.int .i64 (cmpI c z)) ∧ w' = w) := Lib.hid (fun w => (compare_any c z w).mono fun _ _ ⟨h, k⟩ => ⟨h, k.symm⟩)
  go_enter Try.func23, Try.ntmps23
  go_wp2_with fail
  have k1 : Blk ((w.alloc (.cells #[.int .i64 a, .int .i64 b, .int .i64 c] 44)).alloc (.cells #[.int .i64 x, .int .i64 y, .int .i64 z] 44)) w.heap.size 44 [.int .i64 a, .int .i64 b, .int .i64 c] := (Blk.new 44 [.int .i64 a, .int .i64 b, .int .i64 c]).alloc _
  have k2 : Blk ((w.alloc (.cells #[.int .i64 a, .int .i64 b, .int .i64 c] 44)).alloc (.cells #[.int .i64 x, .int .i64 y, .int .i64 z] 44)) (w.heap.size + 1) 44 [.int .i64 x, .int .i64 y, .int .i64 z] := by
    have := Blk.new (w := w.alloc (.cells #[.int .i64 a, .int .i64 b, .int .i64 c] 44)) 44 [.int .i64 x, .int .i64 y, .int .i64 z]
    rw [World.size_alloc] at this; exact this
  have HB : Hid (Below w.heap.size w ((w.alloc (.cells #[.int .i64 a, .int .i64 b, .int .i64 c] 44)).alloc (.cells #[.int .i64 x, .int .i64 y, .int .i64 z] 44)).drew) := Lib.hid ((((Below.refl w.heap.size w).alloc (Nat.le_refl _) _).alloc (by simp) _).trans (below_drewN 1))
  generalize (w.alloc (.cells #[.int .i64 a, .int .i64 b, .int .i64 c] 44)).alloc (.cells #[.int .i64 x, .int .i64 y, .int .i64 z] 44) = W0 at *
  refine wp_region_still_tail 15 (by kernel_rfl) (by kernel_rfl) ?_
  simp only [List.take_succ_cons, List.take_zero, List.drop_succ_cons, List.drop_zero]
  change wpStill _ _ W0.drew (fun a' => wpList _ _ _ _ a' W0.drew) _ _
  have c0 := k1.drew.cell (i := 0) rfl
  have c1 := k1.drew.cell (i := 1) rfl
  have c2 := k1.drew.cell (i := 2) rfl
  have d0 := k2.drew.cell (i := 0) rfl
  have d1 := k2.drew.cell (i := 1) rfl
  have d2 := k2.drew.cell (i := 2) rfl
  generalize W0.drew = W1 at *
  clear k1 k2
  still_step
  still_step
  still_step
  still_step
  still_call (H1.out _)
  still_step
  still_step
  still_step
  still_step
  still_call (H2.out _)
  still_step
  still_step
  still_step
  still_step
  still_call (H3.out _)
  refine wpStill_nil ?_
  have HO := Lib.hid (or_any (.slice (some ⟨W1.heap.size, 0, none⟩) 3 3) [cmpI a x, cmpI b y, cmpI c z] (W1.alloc (.cells #[.int .i64 (cmpI a x), .int .i64 (cmpI b y), .int .i64 (cmpI c z)] 3)) (RO.own ((Blk.new 3 (ints [cmpI a x, cmpI b y, cmpI c z])).own (n := 3) rfl (by simp [maxLen]) W1.heap.size (Nat.le_refl _))) (by simp))
  clear c0 c1 c2 d0 d1 d2
  go_wp2_with fail
  refine HO.out.mono ?_; rintro e w' ⟨rfl, rfl⟩
  go_wp2_with fail
  go_ret
  exact ⟨rfl, HB.out.alloc HB.out.size _⟩
end Go.Proofs.Ytonippdileikbaa
