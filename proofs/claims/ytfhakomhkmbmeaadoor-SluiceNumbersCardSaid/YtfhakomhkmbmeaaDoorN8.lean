import Derived.Test.YtfhakomhkmbmeaaDoorN7
namespace Go.Proofs.YtfhakomhkmbmeaaDoor
set_option linter.unusedVariables false
open Go.RowKit

/-- what Int tells: a number that is x, modulo 2 to the width; or an error -/
def IntR (w : World) (n x : Nat) (e : Ending) (w' : World) : Prop :=
  ∃ m c : Int, e = .returned (.tuple #[.int .i64 m, .int .i64 c]) ∧ Below w.heap.size w w' ∧ -2147483648 ≤ m ∧ m ≤ 2147483648 ∧ (c = 0 → ∃ q : Int, m = x + q * ((2 ^ n : Nat) : Int))
theorem negN_cong {n x : Nat} (hx : x < 2 ^ n) : ∃ q : Int, -((negN n x : Nat) : Int) = x + q * ((2 ^ n : Nat) : Int) := by
  by_cases h0 : x = 0
  · subst h0
    refine ⟨0, ?_⟩
    have : negN n 0 = 0 := by
      unfold negN
      rw [Nat.sub_zero, Nat.mod_self]
    rw [this]; simp
  · refine ⟨-1, ?_⟩
    have : negN n x = 2 ^ n - x := by
      unfold negN
      rw [Nat.mod_eq_of_lt (by omega)]
    rw [this]
    generalize 2 ^ n = T at *
    omega
set_option maxRecDepth 100000 in
set_option maxHeartbeats 4000000 in
theorem lint_any {w : World} {n x : Nat} {p : Option Addr} {c : Nat} (sg : Bool) (hA : VR w (.agg #[.int .i64 n, .slice p (wcount n) c]) n x) (hn : 0 < n) :
    Calls Tryd.prog 12 #[.agg #[.int .i64 n, .slice p (wcount n) c, .bool sg, .bool true]] w (IntR w n x) := by
  have hle := hA.le
  have hni : (n : Int) ≤ 128 := by omega
  have hn0 : ((n : Int) == 0) = false := by simp; omega
  have q1 : IntKind.i64.wrap ((n : Int) - 1) = (n : Int) - 1 := i64_of (by omega)
  have hb0 := Below.new w (.cells #[.int .i64 n, .slice p (wcount n) c, .bool sg, .bool true] 29)
  have hk0 := Blk.new (w := w) 29 [.int .i64 n, .slice p (wcount n) c, .bool sg, .bool true]
  have HW : Hid (∀ w', Below w.heap.size w w' → Calls Tryd.prog 5 #[.agg #[.int .i64 n, .slice p (wcount n) c]] w' fun e w'' => e = .returned (.int .i64 n) ∧ Below w'.heap.size w' w'') := Lib.hid fun w' hb => width_any (hA.below hb)
  have HBit : Hid (∀ w', Below w.heap.size w w' → Calls Tryd.prog 20 #[.agg #[.int .i64 n, .slice p (wcount n) c], .int .i64 ((n : Int) - 1)] w' fun e w'' => e = .returned (.bool (bitI x ((n : Int) - 1))) ∧ Below w'.heap.size w' w'') := Lib.hid fun w' hb => bit_any (hA.below hb) _
  have HNum : Hid (∀ w', Below w.heap.size w w' → Calls Tryd.prog 38 #[.agg #[.int .i64 n, .slice p (wcount n) c], .int .i64 2147483649] w' fun e w'' => e = .returned (.int .i64 (min (x : Int) 2147483649)) ∧ Below w'.heap.size w' w'') := Lib.hid fun w' hb => num_any (hA.below hb) 2147483649 (by omega)
  have HUn : Hid (∀ w', Below w.heap.size w w' → Calls Tryd.prog 41 #[.int .i64 1, .agg #[.int .i64 n, .slice p (wcount n) c]] w' (RetE w' n (negN n x) 0)) := Lib.hid fun w' hb => un_1 (hA.below hb) hn
  obtain ⟨t, ht⟩ : ∃ t, bitI x ((n : Int) - 1) = t := ⟨_, rfl⟩
  rw [ht] at HBit
  have HCg := Lib.hid (negN_cong hA.lt)
  obtain ⟨M, hM⟩ : ∃ M, negN n x = M := ⟨_, rfl⟩
  rw [hM] at HUn HCg
  have HB := Lib.hid (And.intro hb0 hk0)
  clear hA hn hle hb0 hk0 ht hM
  go_enter Tryd.func12, Tryd.ntmps12
  go_wp2_with fail
  generalize w.alloc (.cells #[.int .i64 n, .slice p (wcount n) c, .bool sg, .bool true] 29) = W at *
  refine (HW.out _ HB.out.1).mono ?_; rintro e w1 ⟨rfl, hb1⟩
  have hbw1 := HB.out.1.trans (hb1.mono HB.out.1.size)
  have hk1 := HB.out.2.next hb1
  have c0 := hk1.cell (i := 0) rfl
  have c1 := hk1.cell (i := 1) rfl
  have c2 := hk1.cell (i := 2) rfl
  have H1 := Lib.hid (And.intro hbw1 hk1)
  clear hb1 hbw1 hk1 HB
  have hnot : ∀ (W' : World) (N : Int), N = min (x : Int) 2147483649 → Below w.heap.size w W' → (N < 2147483648 → IntR w n x (.returned (.tuple #[.int .i64 N, .int .i64 0])) W') ∧ IntR w n x (.returned (.tuple #[.int .i64 0, .int .i64 3])) W' := fun W' N hN hb => ⟨fun h => ⟨N, 0, rfl, hb, by omega, by omega, fun _ => ⟨0, by omega⟩⟩, ⟨0, 3, rfl, hb, by omega, by omega, fun h => by omega⟩⟩
  have HNot := Lib.hid hnot
  clear hnot
  cases sg
  · have hs : True := trivial
    go_upto_region 8 with fail
    have hbx := H1.out.1.alloc H1.out.1.size (.cells #[.int .i64 n, .slice p (wcount n) c] 27)
    have HBx := Lib.hid hbx
    clear hbx c0 c1 c2
    go_wp2_with fail
    refine (HNum.out _ HBx.out).mono ?_; rintro e w5 ⟨rfl, hb5⟩
    obtain ⟨N, hN⟩ : ∃ N, min (x : Int) 2147483649 = N := ⟨_, rfl⟩
    have HF := Lib.hid (HNot.out w5 N hN.symm (HBx.out.trans (hb5.mono HBx.out.size)))
    rw [hN]
    clear hb5 hN
    by_cases hlt : N < 2147483648
    · have hge : decide ((2147483648 : Int) ≤ N) = false := decide_eq_false (by omega)
      go_wp2_with fail
      go_ret2
      exact HF.out.1 hlt
    · have hge : (2147483648 : Int) ≤ N := by omega
      go_wp2_with fail
      go_ret2
      exact HF.out.2
  · go_wp2_with fail
    refine (HBit.out _ H1.out.1).mono ?_; rintro e w2 ⟨rfl, hb2⟩
    clear c0 c1 c2
    have hbw2 := H1.out.1.trans (hb2.mono H1.out.1.size)
    have hk2 := H1.out.2.next hb2
    have c0 := hk2.cell (i := 0) rfl
    have c1 := hk2.cell (i := 1) rfl
    have c2 := hk2.cell (i := 2) rfl
    have H2 := Lib.hid (And.intro hbw2 hk2)
    clear hbw2 hk2 hb2 H1
    cases t
    · have hs : True := trivial
      go_upto_region 8 with fail
      have hbx := H2.out.1.alloc H2.out.1.size (.cells #[.int .i64 n, .slice p (wcount n) c] 27)
      have HBx := Lib.hid hbx
      clear hbx c0 c1 c2
      go_wp2_with fail
      refine (HNum.out _ HBx.out).mono ?_; rintro e w5 ⟨rfl, hb5⟩
      obtain ⟨N, hN⟩ : ∃ N, min (x : Int) 2147483649 = N := ⟨_, rfl⟩
      have HF := Lib.hid (HNot.out w5 N hN.symm (HBx.out.trans (hb5.mono HBx.out.size)))
      rw [hN]
      clear hb5 hN
      by_cases hlt : N < 2147483648
      · have hge : decide ((2147483648 : Int) ≤ N) = false := decide_eq_false (by omega)
        go_wp2_with fail
        go_ret2
        exact HF.out.1 hlt
      · have hge : (2147483648 : Int) ≤ N := by omega
        go_wp2_with fail
        go_ret2
        exact HF.out.2
    · go_upto_region 7 with fail
      have hbx := Below.new w2 (.cells #[.int .i64 n, .slice p (wcount n) c] 27)
      have hkx := Blk.new (w := w2) 27 [.int .i64 n, .slice p (wcount n) c]
      have hbw := H2.out.1.trans (hbx.mono H2.out.1.size)
      obtain ⟨g6, hg6⟩ : ∃ g, w2.heap.size = g := ⟨_, rfl⟩
      have hge6 : w.heap.size ≤ g6 := by have := H2.out.1.size; omega
      rw [hg6] at hkx ⊢
      have HB3 := Lib.hid (And.intro hbw (And.intro hkx hge6))
      clear hbx hkx hbw c0 c1 c2 hge6
      generalize w2.alloc (.cells #[.int .i64 n, .slice p (wcount n) c] 27) = W3 at *
      have r0 := HB3.out.2.1.cell (i := 0) rfl
      have r1 := HB3.out.2.1.cell (i := 1) rfl
      clear hg6
      go_wp2_with fail
      refine (HUn.out _ HB3.out.1).mono ?_; rintro e w4 ⟨v4, rfl, hv4, hb4, hf4⟩
      obtain ⟨p4, c4, rfl, _⟩ := hv4.ex
      have hk4 := HB3.out.2.1.next hb4
      have d0 := hk4.cell (i := 0) rfl
      have d1 := hk4.cell (i := 1) rfl
      have f0 := hk4.frz 0
      have f1 := hk4.frz 1
      have hv5 := hv4.set2 (x1 := .int .i64 n) (y1 := .slice p4 (wcount n) c4) (hf4.ne HB3.out.2.1.lt)
      have hb5 := ((HB3.out.1.trans (hb4.mono HB3.out.1.size)).setCell (show w.heap.size ≤ (⟨g6, 0, none⟩ : Addr).block from HB3.out.2.2) (.int .i64 n)).setCell (show w.heap.size ≤ (⟨g6, 1, none⟩ : Addr).block from HB3.out.2.2) (.slice p4 (wcount n) c4)
      have HNum2 := Lib.hid (num_any hv5 2147483649 (by omega))
      have HB5 := Lib.hid hb5
      clear hv4 hb4 hf4 hk4 hv5 hb5 r0 r1
      go_wp2_with fail
      refine HNum2.out.mono ?_; rintro e w6 ⟨rfl, hb6⟩
      have hb7 := HB5.out.trans (hb6.mono HB5.out.size)
      obtain ⟨N, hN⟩ : ∃ N, min (M : Int) (max 2147483649 0) = N := ⟨_, rfl⟩
      have hN0 : 0 ≤ N := by omega
      have hN1 : N ≤ 2147483649 := by omega
      have HN := Lib.hid (And.intro hb7 hN)
      rw [hN]
      clear hb6 hb7 hN d0 d1 f0 f1
      have q2 : IntKind.i64.wrap (-N) = -N := i64_of (by omega)
      by_cases hlt : N ≤ 2147483648
      · go_wp2_with fail
        go_ret2
        obtain ⟨q, hq⟩ := HCg.out
        exact ⟨-N, 0, rfl, HN.out.1, by omega, by omega, fun _ => ⟨q, by rw [← hq]; have := HN.out.2; omega⟩⟩
      · have hle : decide (N ≤ 2147483648) = false := decide_eq_false hlt
        go_wp2_with fail
        go_ret2
        exact ⟨0, 3, rfl, HN.out.1, by omega, by omega, fun h => by omega⟩
end Go.Proofs.YtfhakomhkmbmeaaDoor
