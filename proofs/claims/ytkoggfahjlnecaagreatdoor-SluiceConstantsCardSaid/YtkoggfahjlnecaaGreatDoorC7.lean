import Derived.Test.YtkoggfahjlnecaaGreatDoorC6
namespace Go.Proofs.YtkoggfahjlnecaaGreatDoor
set_option linter.unusedVariables false
open Go.RowKit Go.Sort

/-! # konst: numbers and results -/
set_option maxRecDepth 100000 in
theorem knumber_any {w : World} {bx n : Nat} (hn : n < 200) (hm : Max w) : Calls Tryz.prog 28 #[.pointer (some ⟨bx, 0, none⟩), .agg #[.int .i64 1, .int .i64 0, .int .i64 0, .int .i64 0, .string (dec n), .slice none 0 0]] w fun e w' => e = .returned (.int .i64 n) ∧ Below w.heap.size w w' := by
  have hn0 := Below.new w (.cells #[.int .i64 1, .int .i64 0, .int .i64 0, .int .i64 0, .string (dec n), .slice none 0 0] 27)
  have HP := Lib.hid (lparse_any n hn (hm.below hn0))
  have HI := Lib.hid (fun (w : World) (p : Option Addr) (c : Nat) (h : VR w (.agg #[.int .i64 32, .slice p 1 c]) 32 n) => lint_any (w := w) hn h)
  have HN := Lib.hid hn0
  clear hn0 hm hn
  go_enter Tryz.func28, Tryz.ntmps28
  go_wp2_with fail
  refine HP.out.mono ?_; rintro e w2 ⟨p, c, rfl, hv, hb2, hf2⟩
  have hn3 := Below.new w2 (.cells #[.int .i64 32, .slice p 1 c, .bool true, .bool false] 118)
  have hk3 := Blk.new (w := w2) 118 [.int .i64 32, .slice p 1 c, .bool true, .bool false]
  have H3 := Lib.hid (And.intro (hv.below hn3) (And.intro (Below.next HN.out (Below.next hb2 hn3)) hk3))
  clear hv hb2 hf2 hn3 hk3 HN HP
  go_upto_region 4 with fail
  obtain ⟨b3, hb3⟩ : ∃ b, w2.heap.size = b := ⟨_, rfl⟩
  rw [hb3] at H3 ⊢
  change Hid (VR (w2.alloc (.cells #[.int .i64 32, .slice p 1 c, .bool true, .bool false] 118)) _ _ _ ∧ _) at H3
  generalize (w2.alloc (.cells #[.int .i64 32, .slice p 1 c, .bool true, .bool false] 118)) = w3 at *
  clear hb3
  have c0 := H3.out.2.2.cell (i := 0) rfl
  have c1 := H3.out.2.2.cell (i := 1) rfl
  have c2 := H3.out.2.2.cell (i := 2) rfl
  have c3 := H3.out.2.2.cell (i := 3) rfl
  go_wp2_with fail
  refine (HI.out _ _ _ H3.out.1).mono ?_; rintro e w4 ⟨rfl, hb4⟩
  have HF := Lib.hid (Below.next H3.out.2.1 hb4)
  clear hb4 c0 c1 c2 c3 HI
  go_wp2_with fail
  go_ret
  exact ⟨rfl, HF.out⟩
/-- sums of two small numbers -/
theorem opI_wrap (o : Nat) {x y : Int} (hx : fitI x) (hy : fitI y) : IntKind.i64.wrap (x + y) = x + y ∧ IntKind.i64.wrap (x - y) = x - y ∧ IntKind.i64.wrap (x * y) = x * y := by
  unfold fitI at hx hy
  refine ⟨i64_of (by omega), i64_of (by omega), i64_of ?_⟩
  have h1 : x.natAbs * y.natAbs ≤ 2147483648 * 2147483648 := Nat.mul_le_mul (by omega) (by omega)
  have h2 : (x * y).natAbs = x.natAbs * y.natAbs := Int.natAbs_mul x y
  omega
set_option maxRecDepth 100000 in
theorem kresult_any {w : World} {bx : Nat} {o : Nat} (ho : o < 7) {p : Option Addr} {c : Nat} {x y : Int} (hx : fitI x) (hy : fitI y) : Calls Tryz.prog 57 #[.pointer (some ⟨bx, 0, none⟩), .agg #[.int .i64 4, .int .i64 0, .int .i64 0, .int .i64 0, .string (opT o), .slice p 2 c], .int .i64 x, .int .i64 y] w fun e w' => e = .returned (.int .i64 (opI o x y)) ∧ Below w.heap.size w w' := by
  obtain ⟨w1, w2, w3⟩ := opI_wrap o hx hy
  have ho : o = 0 ∨ o = 1 ∨ o = 2 ∨ o = 3 ∨ o = 4 ∨ o = 5 ∨ o = 6 := by omega
  clear hx hy
  rcases ho with rfl | rfl | rfl | rfl | rfl | rfl | rfl
  · change Calls Tryz.prog 57 #[.pointer (some ⟨bx, 0, none⟩), .agg #[.int .i64 4, .int .i64 0, .int .i64 0, .int .i64 0, .string ⟨#[43]⟩, .slice p 2 c], .int .i64 x, .int .i64 y] w _
    go_enter Tryz.func57, Tryz.ntmps57
    go_wp2_with fail
    go_ret
    exact ⟨rfl, Below.new _ _⟩
  · change Calls Tryz.prog 57 #[.pointer (some ⟨bx, 0, none⟩), .agg #[.int .i64 4, .int .i64 0, .int .i64 0, .int .i64 0, .string ⟨#[45]⟩, .slice p 2 c], .int .i64 x, .int .i64 y] w _
    go_enter Tryz.func57, Tryz.ntmps57
    go_wp2_with fail
    go_ret
    exact ⟨rfl, Below.new _ _⟩
  · change Calls Tryz.prog 57 #[.pointer (some ⟨bx, 0, none⟩), .agg #[.int .i64 4, .int .i64 0, .int .i64 0, .int .i64 0, .string ⟨#[42]⟩, .slice p 2 c], .int .i64 x, .int .i64 y] w _
    go_enter Tryz.func57, Tryz.ntmps57
    go_wp2_with fail
    go_ret
    exact ⟨rfl, Below.new _ _⟩
  · change Calls Tryz.prog 57 #[.pointer (some ⟨bx, 0, none⟩), .agg #[.int .i64 4, .int .i64 0, .int .i64 0, .int .i64 0, .string ⟨#[38]⟩, .slice p 2 c], .int .i64 x, .int .i64 y] w _
    go_enter Tryz.func57, Tryz.ntmps57
    go_wp2_with fail
    go_ret
    exact ⟨rfl, Below.new _ _⟩
  · change Calls Tryz.prog 57 #[.pointer (some ⟨bx, 0, none⟩), .agg #[.int .i64 4, .int .i64 0, .int .i64 0, .int .i64 0, .string ⟨#[124]⟩, .slice p 2 c], .int .i64 x, .int .i64 y] w _
    go_enter Tryz.func57, Tryz.ntmps57
    go_wp2_with fail
    go_ret
    exact ⟨rfl, Below.new _ _⟩
  · change Calls Tryz.prog 57 #[.pointer (some ⟨bx, 0, none⟩), .agg #[.int .i64 4, .int .i64 0, .int .i64 0, .int .i64 0, .string ⟨#[94]⟩, .slice p 2 c], .int .i64 x, .int .i64 y] w _
    go_enter Tryz.func57, Tryz.ntmps57
    go_wp2_with fail
    go_ret
    exact ⟨rfl, Below.new _ _⟩
  · change Calls Tryz.prog 57 #[.pointer (some ⟨bx, 0, none⟩), .agg #[.int .i64 4, .int .i64 0, .int .i64 0, .int .i64 0, .string ⟨#[126, 94]⟩, .slice p 2 c], .int .i64 x, .int .i64 y] w _
    go_enter Tryz.func57, Tryz.ntmps57
    go_wp2_with fail
    go_ret
    exact ⟨rfl, Below.new _ _⟩
end Go.Proofs.YtkoggfahjlnecaaGreatDoor
