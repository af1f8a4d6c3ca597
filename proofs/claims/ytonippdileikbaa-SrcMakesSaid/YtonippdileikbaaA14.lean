import Derived.Test.YtonippdileikbaaA4
namespace Go.Proofs.Ytonippdileikbaa
set_option linter.unusedVariables false
open Go.RowKit

/-- the reference's line and column of byte k -/
def plTo (l : List UInt8) : Nat → Nat × Nat
  | 0 => (1, 1)
  | k + 1 => if l.getD k 0 = 10 then ((plTo l k).1 + 1, 1) else ((plTo l k).1, (plTo l k).2 + 1)
theorem plTo_succ (l : List UInt8) (k : Nat) : plTo l (k + 1) = if l.getD k 0 = 10 then ((plTo l k).1 + 1, 1) else ((plTo l k).1, (plTo l k).2 + 1) := rfl
theorem plTo_le (l : List UInt8) : ∀ k, (plTo l k).1 ≤ k + 1 ∧ (plTo l k).2 ≤ k + 1
  | 0 => ⟨Nat.le_refl _, Nat.le_refl _⟩
  | k + 1 => by have := plTo_le l k; rw [plTo_succ]; split <;> simp only <;> omega

theorem place_any (s : ByteArray) (m : Nat) (w : World) (hm : m ≤ s.size) (hs : s.size ≤ 1000000) : Calls Try.prog 19 #[.string s, .int .i64 m] w fun e w' => e = .returned (.tuple #[.int .i64 (plTo s.data.toList m).1, .int .i64 (plTo s.data.toList m).2]) ∧ w = w' := by
  have hm6 : (m : Int) ≤ 1000000 := by omega
  have HM := Lib.hid (And.intro hm hs)
  clear hm hs
  go_enter Try.func19, Try.ntmps19
  go_wp2_with fail
  go_loop [6, 7, 8] (fun x y i => ∃ k : Nat, k ≤ m ∧ i = .int .i64 k ∧ x = .int .i64 (plTo s.data.toList k).1 ∧ y = .int .i64 (plTo s.data.toList k).2) (fun _ _ i => m - (intOf i).toNat)
  case atStart => exact ⟨0, Nat.zero_le _, rfl, rfl, rfl⟩
  case round =>
    obtain ⟨k, hk, rfl, rfl, rfl⟩ := hrel
    have hle := plTo_le s.data.toList k
    by_cases hlt : k < m
    · have hks : k < s.size := by have := HM.out; omega
      have hsucc := plTo_succ s.data.toList k
      rw [getS s k hks] at hsucc
      have HS := Lib.hid (And.intro hsucc (u8_ten s[k]))
      generalize plTo s.data.toList k = Q at *
      obtain ⟨ln, cl⟩ := Q
      obtain ⟨hl1, hl2⟩ := hle
      dsimp only at hl1 hl2 HS ⊢
      have hl1' : (ln : Int) ≤ 1000001 := by omega
      have hl2' : (cl : Int) ≤ 1000001 := by omega
      clear hsucc hl1 hl2
      by_cases h10 : (s[k].toNat : Int) = 10
      · have h10b : ((s[k].toNat : Int) == 10) = true := by simp [h10]
        have H10 := Lib.hid (HS.out.2.2 h10)
        clear h10
        go_wp2_with fail
        go_round
        case rel => exact ⟨k + 1, by omega, by go_num, by rw [HS.out.1, if_pos H10.out]; go_num, by rw [HS.out.1, if_pos H10.out]; rfl⟩
        case measure => simp [intOf]; omega
      · have h10b : ((s[k].toNat : Int) == 10) = false := by simp [h10]
        have H10 := Lib.hid (fun h => h10 (HS.out.2.1 h))
        clear h10
        go_wp2_with fail
        go_round
        case rel => exact ⟨k + 1, by omega, by go_num, by rw [HS.out.1, if_neg H10.out], by rw [HS.out.1, if_neg H10.out]; go_num⟩
        case measure => simp [intOf]; omega
    · obtain rfl : k = m := by omega
      clear hlt hle
      go_wp2_with fail
      go_ret2
      exact ⟨rfl, rfl⟩
end Go.Proofs.Ytonippdileikbaa
