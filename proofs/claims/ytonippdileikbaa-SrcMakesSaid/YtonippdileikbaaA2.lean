import Derived.Test.YtonippdileikbaaA1
import Derived.Lib.Bytealg
import Derived.BigCall
import Derived.Lib.Strings
namespace Go.Proofs.Ytonippdileikbaa
set_option linter.unusedVariables false
open Go.RowKit

theorem ixl_any (s : ByteArray) (c : Int) (w : World) : Calls Try.prog 42 #[.string s, .int .u8 c] w fun e w' => e = .returned (.int .i64 (Lib.indexByte s.data.toList c.toNat.toUInt8)) ∧ w = w' := by
  go_enter Try.func42, Try.ntmps42
  go_wp2
  rw [run_callFunc_extern Try.func43 (by kernel_rfl) (by kernel_rfl) (by kernel_rfl) (e := Extern.BytealgIndexByte.indexByte) (by kernel_rfl), Lib.run_indexByteString]
  simp only [Result.andThen]
  rw [Oper.upon_value]
  go_wp2
  go_ret
  exact ⟨rfl, rfl⟩

theorem ix_any (s : ByteArray) (c : Int) (w : World) : Calls Try.prog 41 #[.string s, .int .u8 c] w fun e w' => e = .returned (.int .i64 (Lib.indexByte s.data.toList c.toNat.toUInt8)) ∧ w = w' := by
  have H := Lib.hid (ixl_any s c w)
  go_enter Try.func41, Try.ntmps41
  go_wp2_with fail
  refine H.out.mono ?_; rintro e w' ⟨rfl, rfl⟩
  go_wp2_with fail
  go_ret
  exact ⟨rfl, rfl⟩

def isLetter (c : Nat) : Bool := decide (97 ≤ c ∧ c ≤ 122 ∨ 65 ≤ c ∧ c ≤ 90 ∨ 48 ≤ c ∧ c ≤ 57 ∨ c = 95 ∨ c = 45 ∨ c = 46)

set_option maxRecDepth 100000 in
theorem signs_ix (c : Nat) (hc : c < 256) : 0 ≤ Lib.indexByte ({ data := #[95, 45, 46] } : ByteArray).data.toList (c : Int).toNat.toUInt8 ↔ (c = 95 ∨ c = 45 ∨ c = 46) := by
  rw [Int.toNat_natCast]
  have h : ∀ d : Nat, d < 256 → (0 ≤ Lib.indexByte ({ data := #[95, 45, 46] } : ByteArray).data.toList d.toUInt8 ↔ (d = 95 ∨ d = 45 ∨ d = 46)) := by decide
  exact h c hc

theorem letter_any (c : Nat) (hc : c < 256) (w : World) : Calls Try.prog 37 #[.int .u8 c] w fun e w' => e = .returned (.bool (isLetter c)) ∧ w = w' := by
  have HI := Lib.hid (ix_any { data := #[95, 45, 46] } c w)
  have hs := signs_ix c hc
  generalize Lib.indexByte ({ data := #[95, 45, 46] } : ByteArray).data.toList (c : Int).toNat.toUInt8 = r at *
  have HS := Lib.hid hs
  clear hs
  obtain ⟨b, hb⟩ : ∃ b, isLetter c = b := ⟨_, rfl⟩
  rw [hb]
  have HB := Lib.hid hb
  have HC := Lib.hid hc
  clear hb hc
  have tail : ∀ b', (0 ≤ r ↔ b' = true) → (c < 97 ∨ 122 < c) → (c < 65 ∨ 90 < c) → (c < 48 ∨ 57 < c) → b' = b := by
    intro b' h1 h2 h3 h4
    rw [← HB.out]
    rw [HS.out] at h1
    unfold isLetter
    cases b' <;> simp at h1 ⊢ <;> omega
  have head : (97 ≤ c ∧ c ≤ 122 ∨ 65 ≤ c ∧ c ≤ 90 ∨ 48 ≤ c ∧ c ≤ 57) → b = true := by
    intro h; rw [← HB.out]; unfold isLetter; simp; omega
  have HT := Lib.hid (And.intro tail head)
  clear tail head
  go_enter Try.func37, Try.ntmps37
  by_cases h1 : 97 ≤ (c : Int) ∧ (c : Int) ≤ 122
  · obtain ⟨h1, h2⟩ := h1
    go_wp2_with fail
    go_ret
    exact ⟨by rw [HT.out.2 (.inl ⟨by omega, by omega⟩)]; rfl, rfl⟩
  · by_cases h2 : 65 ≤ (c : Int) ∧ (c : Int) ≤ 90
    · obtain ⟨h2, h3⟩ := h2
      have h4 : (c : Int) < 97 := by omega
      clear h1
      go_wp2_with fail
      go_ret
      exact ⟨by rw [HT.out.2 (.inr (.inl ⟨by omega, by omega⟩))]; rfl, rfl⟩
    · by_cases h3 : 48 ≤ (c : Int) ∧ (c : Int) ≤ 57
      · obtain ⟨h3, h4⟩ := h3
        have h5 : (c : Int) < 97 := by omega
        have h6 : (c : Int) < 65 := by omega
        clear h1 h2
        go_wp2_with fail
        go_ret
        exact ⟨by rw [HT.out.2 (.inr (.inr ⟨by omega, by omega⟩))]; rfl, rfl⟩
      · have HT2 : Hid (∀ b', (0 ≤ r ↔ b' = true) → b' = b) := Lib.hid fun b' h => HT.out.1 b' h (by omega) (by omega) (by omega)
        by_cases hr : 0 ≤ r
        · have e : b = true := (HT2.out true ⟨fun _ => rfl, fun _ => hr⟩).symm
          subst e
          rcases (show 122 < (c : Int) ∨ (90 < (c : Int) ∧ (c : Int) < 97) ∨ (57 < (c : Int) ∧ (c : Int) < 65) ∨ (c : Int) < 48 by omega) with h4 | ⟨h4, h5⟩ | ⟨h4, h5⟩ | h4
          all_goals
            have g1 : (c : Int) < 97 ∨ 97 ≤ (c : Int) := by omega
            clear h1 h2 h3 g1
          · have h6 : 97 ≤ (c : Int) := by omega
            have h7 : 65 ≤ (c : Int) := by omega
            have h8 : 48 ≤ (c : Int) := by omega
            have h9 : 90 < (c : Int) := by omega
            have h10 : 57 < (c : Int) := by omega
            go_wp2_with fail
            refine HI.out.mono ?_; rintro e w' ⟨rfl, rfl⟩
            go_wp2_with fail
            go_ret
            exact ⟨rfl, rfl⟩
          · have h7 : 65 ≤ (c : Int) := by omega
            have h8 : 48 ≤ (c : Int) := by omega
            have h10 : 57 < (c : Int) := by omega
            go_wp2_with fail
            refine HI.out.mono ?_; rintro e w' ⟨rfl, rfl⟩
            go_wp2_with fail
            go_ret
            exact ⟨rfl, rfl⟩
          · have h7 : (c : Int) < 97 := by omega
            have h8 : 48 ≤ (c : Int) := by omega
            go_wp2_with fail
            refine HI.out.mono ?_; rintro e w' ⟨rfl, rfl⟩
            go_wp2_with fail
            go_ret
            exact ⟨rfl, rfl⟩
          · have h7 : (c : Int) < 97 := by omega
            have h8 : (c : Int) < 65 := by omega
            go_wp2_with fail
            refine HI.out.mono ?_; rintro e w' ⟨rfl, rfl⟩
            go_wp2_with fail
            go_ret
            exact ⟨rfl, rfl⟩
        · have e : b = false := (HT2.out false ⟨fun h => absurd h hr, fun h => nomatch h⟩).symm
          subst e
          have hr' : r < 0 := by omega
          rcases (show 122 < (c : Int) ∨ (90 < (c : Int) ∧ (c : Int) < 97) ∨ (57 < (c : Int) ∧ (c : Int) < 65) ∨ (c : Int) < 48 by omega) with h4 | ⟨h4, h5⟩ | ⟨h4, h5⟩ | h4
          all_goals
            clear h1 h2 h3 hr
          · have h6 : 97 ≤ (c : Int) := by omega
            have h7 : 65 ≤ (c : Int) := by omega
            have h8 : 48 ≤ (c : Int) := by omega
            have h9 : 90 < (c : Int) := by omega
            have h10 : 57 < (c : Int) := by omega
            go_wp2_with fail
            refine HI.out.mono ?_; rintro e w' ⟨rfl, rfl⟩
            go_wp2_with fail
            go_ret
            exact ⟨congrArg (fun b => Ending.returned (Value.bool b)) (by simp; omega), rfl⟩
          · have h7 : 65 ≤ (c : Int) := by omega
            have h8 : 48 ≤ (c : Int) := by omega
            have h10 : 57 < (c : Int) := by omega
            go_wp2_with fail
            refine HI.out.mono ?_; rintro e w' ⟨rfl, rfl⟩
            go_wp2_with fail
            go_ret
            exact ⟨congrArg (fun b => Ending.returned (Value.bool b)) (by simp; omega), rfl⟩
          · have h7 : (c : Int) < 97 := by omega
            have h8 : 48 ≤ (c : Int) := by omega
            go_wp2_with fail
            refine HI.out.mono ?_; rintro e w' ⟨rfl, rfl⟩
            go_wp2_with fail
            go_ret
            exact ⟨congrArg (fun b => Ending.returned (Value.bool b)) (by simp; omega), rfl⟩
          · have h7 : (c : Int) < 97 := by omega
            have h8 : (c : Int) < 65 := by omega
            go_wp2_with fail
            refine HI.out.mono ?_; rintro e w' ⟨rfl, rfl⟩
            go_wp2_with fail
            go_ret
            exact ⟨congrArg (fun b => Ending.returned (Value.bool b)) (by simp; omega), rfl⟩
end Go.Proofs.Ytonippdileikbaa
