import Derived.Test.YtonippdileikbaaA5
namespace Go.Proofs.Ytonippdileikbaa
set_option linter.unusedVariables false
open Go.RowKit

theorem bounds_out (w : World) (nm tx : ByteArray) (sp : Option Addr) (sn sc : Nat) (n : Int) (hn : n < 1 ∨ (sn : Int) < n) (hs : sn ≤ 1000000) :
    Calls Try.prog 33 #[.agg #[.string nm, .string tx, .slice sp sn sc], .int .i64 n] w fun e w' => e = .returned (.tuple #[.int .i64 0, .int .i64 0, .int .i64 3]) ∧ Below w.heap.size w w' := by
  have hs' : (sn : Int) ≤ 1000000 := by omega
  go_enter Try.func33, Try.ntmps33
  rcases hn with hn | hn
  · go_wp2_with fail
    go_ret3
    exact ⟨rfl, (Below.refl _ _).alloc (Nat.le_refl _) _⟩
  · have hn1 : 1 ≤ n := by omega
    go_wp2_with fail
    go_ret3
    exact ⟨rfl, (Below.refl _ _).alloc (Nat.le_refl _) _⟩

/-- where line k + 1 ends -/
def endOf (L : List Int) (size : Nat) (k : Nat) : Int := if k + 1 = L.length then size else L.getD (k + 1) 0 - 1

set_option maxHeartbeats 1000000 in
theorem bounds_in (w : World) (nm tx : ByteArray) (sp : Option Addr) (sc : Nat) (L : List Int) (k : Nat) (hk : k < L.length) (hs : L.length ≤ 1000000) (hr : RO w (.slice sp L.length sc) 1 L.length (ints L))
    (htx : tx.size ≤ maxLen) (hLb : ∀ i, i < L.length → 0 ≤ L.getD i 0 ∧ L.getD i 0 ≤ 1000000) :
    Calls Try.prog 33 #[.agg #[.string nm, .string tx, .slice sp L.length sc], .int .i64 ((k : Int) + 1)] w fun e w' => e = .returned (.tuple #[.int .i64 (L.getD k 0), .int .i64 (endOf L tx.size k), .int .i64 0]) ∧ Below w.heap.size w w' := by
  unfold maxLen at htx
  have hs' : (L.length : Int) ≤ 1000000 := by omega
  have hki : (k : Int) < L.length := by omega
  obtain ⟨b, o, rfl⟩ := hr.sl (ints_at L k hk)
  have hc := hr.cell (ints_at L k hk)
  have hbl := World.block_lt_of_cell? _ _ hc
  by_cases hlast : k + 1 = L.length
  · have he : endOf L tx.size k = tx.size := by rw [endOf, if_pos hlast]
    have hla : (k : Int) + 1 = L.length := by omega
    have HE := Lib.hid he
    generalize L.getD k 0 = X at *
    clear hr hLb he hlast
    have hla1 : ((k : Int) + 1 == L.length) = true := by simp; omega
    have hla2 : decide ((L.length : Int) < (k : Int) + 1) = false := by simp; omega
    have hla3 : (k : Int) + 1 ≤ L.length := by omega
    clear hla hk
    go_enter Try.func33, Try.ntmps33
    go_wp2_with fail
    go_quiet (fail)
    go_wp2_with fail
    go_ret3
    exact ⟨by rw [HE.out]; rfl, ((Below.refl _ _).alloc (Nat.le_refl _) _).trans (below_drewN _)⟩
  · have he : endOf L tx.size k = L.getD (k + 1) 0 - 1 := by rw [endOf, if_neg hlast]
    have hla : (k : Int) + 1 < L.length := by omega
    have hne : ((k : Int) + 1 == L.length) = false := by simp; omega
    have HE := Lib.hid he
    have hc2 := hr.cell (ints_at L (k + 1) (by omega))
    have hc3 := hc2
    rw [← Nat.add_assoc] at hc3
    have hY := hLb (k + 1) (by omega)
    generalize L.getD k 0 = X at *
    generalize L.getD (k + 1) 0 = Y at *
    obtain ⟨hY0, hY1⟩ := hY
    clear hr hLb he hlast
    go_enter Try.func33, Try.ntmps33
    go_wp2_with fail
    go_quiet (fail)
    go_wp2_with fail
    go_ret3
    exact ⟨by rw [HE.out]; rfl, ((Below.refl _ _).alloc (Nat.le_refl _) _).trans (below_drewN _)⟩
end Go.Proofs.Ytonippdileikbaa
