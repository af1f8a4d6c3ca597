import Derived.Test.YtoccghbkfnalgaaM2
import Derived.WalkKit
import Derived.Lib.Hide
import Derived.Deep.QuietTactic
import Derived.BigQuiet
namespace Go.Proofs.Ytoccghbkfnalgaa
set_option linter.unusedVariables false
open Go.RowKit


theorem xor_one (a : Int) (h0 : 0 ≤ a) (h1 : a < 2^62) : bits BinOp.xor IntKind.i64 a 1 = tnot a := by
  obtain ⟨n, rfl⟩ := Int.eq_ofNat_of_zero_le h0
  have hn : n < 2 ^ 62 := by omega
  have e1 : (BitVec.ofInt IntKind.i64.bits (n : Int)).toNat = n := by
    simp only [BitVec.ofInt_natCast, BitVec.toNat_ofNat, IntKind.bits]
    exact Nat.mod_eq_of_lt (by omega)
  have e2 : (BitVec.ofInt IntKind.i64.bits (1 : Int)).toNat = 1 := by decide
  have e3 : (n ^^^ 1 : Nat) = if n % 2 = 0 then n + 1 else n - 1 := by
    have h1 : (n ^^^ 1) / 2 = n / 2 := by rw [Nat.xor_div_two]; simp
    have h2 : (n ^^^ 1) % 2 = (n + 1) % 2 := by
      have h := Nat.xor_mod_two_pow (a := n) (b := 1) (n := 1)
      rw [Nat.pow_one] at h
      rw [h]
      rcases Nat.mod_two_eq_zero_or_one n with hp | hp
      · rw [hp]; show 0 ^^^ 1 = _; rw [show (0 ^^^ 1 : Nat) = 1 from rfl]; omega
      · rw [hp]; show 1 ^^^ 1 = _; rw [show (1 ^^^ 1 : Nat) = 0 from rfl]; omega
    split <;> omega
  simp only [bits, BitVec.toNat_xor, e1, e2, e3]
  rw [IntKind.wrap_i64]
  unfold tnot
  split <;> split <;> omega

set_option maxHeartbeats 400000 in
theorem not_any (a : Int) (w : World) (h0 : 0 ≤ a) (h1 : a < 2^62) :
    Calls Try.prog 12 #[.int .i64 a] w fun e w' => e = .returned (.int .i64 (tnot a)) ∧ w = w' := by
  have hx := Lib.hid (xor_one a h0 h1)
  go_enter Try.func12, Try.ntmps12
  go_wp2
  go_ret
  exact ⟨by rw [hx.out]; rfl, rfl⟩

def SomeB (w : World) (e : Ending) (w' : World) (b : Bool) : Prop := e = .returned (.bool b) ∧ w = w'

set_option maxHeartbeats 400000 in
theorem lit_any (a : Int) (b : Nat) (n c : Nat) (p : Option Addr) (w : World) (h0 : 0 ≤ a) (h1 : a < 2^62)
   (hc : w.cell? ⟨b, 0, none⟩ = some (.slice p n c)) :
    Calls Try.prog 26 #[.pointer (some ⟨b, 0, none⟩), .int .i64 a] w fun e w' => e = .returned (.bool (decide (a / 2 < n))) ∧ w = w' := by
  go_enter Try.func26, Try.ntmps26
  go_wp2
  go_ret
  exact ⟨rfl, rfl⟩

theorem lit_neg (a : Int) (b : Nat) (w : World) (h0 : a < 0) :
    Calls Try.prog 26 #[.pointer (some ⟨b, 0, none⟩), .int .i64 a] w fun e w' => e = .returned (.bool false) ∧ w = w' := by
  go_enter Try.func26, Try.ntmps26
  go_wp2
  go_ret
  exact ⟨rfl, rfl⟩

theorem len_any (b : Nat) (n c : Nat) (p : Option Addr) (w : World) 
   (hc : w.cell? ⟨b, 0, none⟩ = some (.slice p n c)) :
    Calls Try.prog 10 #[.pointer (some ⟨b, 0, none⟩)] w fun e w' => e = .returned (.int .i64 n) ∧ w = w' := by
  go_enter Try.func10, Try.ntmps10
  go_wp2
  go_ret
  exact ⟨rfl, rfl⟩

theorem inputs_any (b : Nat) (n c : Nat) (p : Option Addr) (w : World) 
   (hc : w.cell? ⟨b, 1, none⟩ = some (.slice p n c)) :
    Calls Try.prog 16 #[.pointer (some ⟨b, 0, none⟩)] w fun e w' => e = .returned (.int .i64 n) ∧ w = w' := by
  go_enter Try.func16, Try.ntmps16
  go_wp2
  go_ret
  exact ⟨rfl, rfl⟩


theorem new_any (w : World) :
    Calls Try.prog 22 #[] w fun e w' => e = .returned (.pointer (some ⟨w.heap.size + 2, 0, none⟩)) ∧ w' = ((w.alloc (.cells #[.int .i64 (-1), .int .i64 (-1)] 58)).alloc (.map #[] 0)).alloc (.cells #[.slice (some ⟨w.heap.size, 0, none⟩) 1 1, .slice none 0 0, .map (some (w.heap.size + 1))] 56) := by
  have hmm := @run_makeMap Try.prog
  go_enter Try.func22, Try.ntmps22
  go_wp2
  go_ret
  exact ⟨rfl, rfl⟩
end Go.Proofs.Ytoccghbkfnalgaa
