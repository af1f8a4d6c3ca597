import Derived.Test.YtkoggfahjlnecaaGreatDoorC4
namespace Go.Proofs.YtkoggfahjlnecaaGreatDoor
set_option linter.unusedVariables false
open Go.RowKit Go.Sort

/-! # lit.Int of a plain number -/
theorem bit31 (n : Nat) (h : n < 200) : bitI n 31 = false := by
  unfold bitI
  simp
  rw [Nat.testBit_eq_decide_div_mod_eq]
  simp
  omega
set_option maxRecDepth 100000 in
theorem lint_any {w : World} {n : Nat} {p : Option Addr} {c : Nat} (hn : n < 200) (hA : VR w (.agg #[.int .i64 32, .slice p 1 c]) 32 n) :
    Calls Tryz.prog 55 #[.agg #[.int .i64 32, .slice p 1 c, .bool true, .bool false]] w fun e w' => e = .returned (.tuple #[.int .i64 n, .int .i64 0]) ∧ Below w.heap.size w w' := by
  have hb0 := Below.new w (.cells #[.int .i64 32, .slice p 1 c, .bool true, .bool false] 118)
  have hk0 := Blk.new (w := w) 118 [.int .i64 32, .slice p 1 c, .bool true, .bool false]
  have HW : Hid (∀ w', Below w.heap.size w w' → Calls Tryz.prog 10 #[.agg #[.int .i64 32, .slice p 1 c]] w' fun e w'' => e = .returned (.int .i64 32) ∧ Below w'.heap.size w' w'') := Lib.hid fun w' hb => width_any (hA.below hb)
  have HBit : Hid (∀ w', Below w.heap.size w w' → Calls Tryz.prog 44 #[.agg #[.int .i64 32, .slice p 1 c], .int .i64 31] w' fun e w'' => e = .returned (.bool false) ∧ Below w'.heap.size w' w'') := Lib.hid fun w' hb => by
    have h := bit_any (hA.below hb) 31
    rw [bit31 n hn] at h
    exact h
  have HNum : Hid (∀ w', Below w.heap.size w w' → Calls Tryz.prog 21 #[.agg #[.int .i64 32, .slice p 1 c], .int .i64 2147483649] w' fun e w'' => e = .returned (.int .i64 n) ∧ Below w'.heap.size w' w'') := Lib.hid fun w' hb => by
    have h := num_any (hA.below hb) 2147483649 (by omega)
    rw [show min (n : Int) (max 2147483649 0) = (n : Int) by omega] at h
    exact h
  have hge : decide ((2147483648 : Int) ≤ (n : Int)) = false := decide_eq_false (by omega)
  have HB := Lib.hid (And.intro hb0 hk0)
  clear hA hn hb0 hk0
  go_enter Tryz.func55, Tryz.ntmps55
  go_upto_region 1 with fail
  change Hid (Below _ _ (w.alloc (.cells #[.int .i64 32, .slice p 1 c, .bool true, .bool false] 118)) ∧ _) at HB
  generalize w.alloc (.cells #[.int .i64 32, .slice p 1 c, .bool true, .bool false] 118) = W at *
  have c0 := HB.out.2.cell (i := 0) rfl
  have c1 := HB.out.2.cell (i := 1) rfl
  have c2 := HB.out.2.cell (i := 2) rfl
  go_wp2_with fail
  refine (HW.out _ HB.out.1).mono ?_; rintro e w1 ⟨rfl, hb1⟩
  clear c0 c1 c2
  have H1 := Lib.hid (And.intro (HB.out.1.trans (hb1.mono HB.out.1.size)) (HB.out.2.next hb1))
  clear hb1 HB HW
  have c0 := H1.out.2.cell (i := 0) rfl
  have c1 := H1.out.2.cell (i := 1) rfl
  have c2 := H1.out.2.cell (i := 2) rfl
  go_wp2_with fail
  refine (HBit.out _ H1.out.1).mono ?_; rintro e w2 ⟨rfl, hb2⟩
  clear c0 c1 c2
  have H2 := Lib.hid (And.intro (H1.out.1.trans (hb2.mono H1.out.1.size)) (H1.out.2.next hb2))
  clear hb2 H1 HBit
  have c0 := H2.out.2.cell (i := 0) rfl
  have c1 := H2.out.2.cell (i := 1) rfl
  have c2 := H2.out.2.cell (i := 2) rfl
  go_upto_region 8 with fail
  have HBx := Lib.hid (H2.out.1.alloc H2.out.1.size (.cells #[.int .i64 32, .slice p 1 c] 39))
  clear c0 c1 c2
  go_wp2_with fail
  refine (HNum.out _ HBx.out).mono ?_; rintro e w5 ⟨rfl, hb5⟩
  have HF := Lib.hid (HBx.out.trans (hb5.mono HBx.out.size))
  clear hb5 HBx
  go_wp2_with fail
  go_ret2
  exact ⟨rfl, HF.out⟩
end Go.Proofs.YtkoggfahjlnecaaGreatDoor
