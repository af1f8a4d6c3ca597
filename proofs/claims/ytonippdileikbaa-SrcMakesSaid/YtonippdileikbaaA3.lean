import Derived.Test.YtonippdileikbaaA2
import Derived.Laws.Strings
namespace Go.Proofs.Ytonippdileikbaa
set_option linter.unusedVariables false
open Go.RowKit

theorem takeS_snoc (s : ByteArray) (k : Nat) (h : k < s.size) : s.data.toList.take (k + 1) = s.data.toList.take k ++ [s[k]] := by
  rw [List.take_succ_eq_append_getElem (by simpa using h)]; rfl

def lets (l : List UInt8) : Bool := l.all fun c => isLetter c.toNat
theorem lets_snoc (l : List UInt8) (c : UInt8) : lets (l ++ [c]) = (lets l && isLetter c.toNat) := by simp [lets]
theorem lets_take (l : List UInt8) (k : Nat) (h : lets (l.take k) = false) : lets l = false := by
  rw [← List.take_append_drop k l]
  unfold lets at *
  rw [List.all_append, h, Bool.false_and]
def isName (s : ByteArray) : Bool := lets s.data.toList && decide (1 ≤ s.size ∧ s.size ≤ 40)

theorem size_eq_zero (s : ByteArray) (h : s.size = 0) : s = { data := #[] } := by
  obtain ⟨d⟩ := s
  have : d.size = 0 := h
  simp [Array.size_eq_zero_iff.1 this]

theorem named_any (s : ByteArray) (w : World) (hs : s.size ≤ maxLen) : Calls Try.prog 26 #[.string s] w fun e w' => e = .returned (.bool (isName s)) ∧ w = w' := by
  unfold maxLen at hs
  go_enter Try.func26, Try.ntmps26
  go_wp2_with fail
  go_loop [6] (fun i => ∃ k : Nat, k ≤ s.size ∧ i = .int .i64 k ∧ lets (s.data.toList.take k) = true) (fun i => s.size - (intOf i).toNat)
  case atStart => exact ⟨0, Nat.zero_le _, rfl, rfl⟩
  case round =>
    obtain ⟨k, hk, rfl, hl⟩ := hrel
    by_cases hlt : k < s.size
    · have hsn := lets_snoc (s.data.toList.take k) s[k]
      rw [← takeS_snoc s k hlt, hl, Bool.true_and] at hsn
      have HC := Lib.hid (letter_any s[k].toNat s[k].toNat_lt w)
      obtain ⟨b, hb⟩ : ∃ b, isLetter s[k].toNat = b := ⟨_, rfl⟩
      rw [hb] at HC hsn
      have HS := Lib.hid hsn
      clear hsn hb hl
      go_wp2_with fail
      refine HC.out.mono ?_; rintro e w' ⟨rfl, rfl⟩
      cases b
      · go_wp2_with fail
        go_ret
        exact ⟨by rw [isName, lets_take _ _ HS.out]; rfl, rfl⟩
      · go_wp2_with fail
        go_round
        case rel => exact ⟨k + 1, by omega, by go_num, HS.out⟩
        case measure => simp [intOf]; omega
    · obtain rfl : k = s.size := by omega
      rw [List.take_of_length_le (by simp)] at hl
      have HL := Lib.hid hl
      clear hl
      by_cases h0 : s.size = 0
      · have he := size_eq_zero s h0
        have hnl : s.toList = [] := by rw [he, ByteArray.toList_eq]
        have H0 := Lib.hid h0
        clear h0 he hlt
        go_wp2_with fail
        go_ret
        exact ⟨by rw [isName, decide_eq_false (fun h => by have := H0.out; omega), Bool.and_false]; rfl, rfl⟩
      · have hnl : ¬ s.toList = [] := by
          intro e
          rw [ByteArray.toList_eq] at e
          exact h0 (by have := congrArg List.length e; simpa using this)
        have H0 := Lib.hid h0
        clear h0 hlt
        by_cases h40 : (s.size : Int) ≤ 40
        · go_wp2_with fail
          go_ret
          exact ⟨congrArg (fun b => Ending.returned (Value.bool b)) (by rw [isName, HL.out, decide_eq_true ⟨by have := H0.out; omega, by omega⟩]; simp [hnl]), rfl⟩
        · have h40' : decide ((s.size : Int) ≤ 40) = false := by simpa using h40
          have H40 := Lib.hid h40
          clear h40
          go_wp2_with fail
          go_ret
          exact ⟨congrArg (fun b => Ending.returned (Value.bool b)) (by rw [isName, HL.out, decide_eq_false (fun h => by have := H40.out; omega)]; simp), rfl⟩

set_option maxHeartbeats 1000000 in
theorem refNamed_any (s : ByteArray) (w : World) (hs : s.size ≤ maxLen) : Calls Try.prog 28 #[.string s] w fun e w' => e = .returned (.bool (isName s)) ∧ w = w' := by
  unfold maxLen at hs
  go_enter Try.func28, Try.ntmps28
  go_wp2_with fail
  go_loop [3] (fun i => ∃ k : Nat, k ≤ s.size ∧ i = .int .i64 k ∧ lets (s.data.toList.take k) = true) (fun i => s.size - (intOf i).toNat)
  case atStart => exact ⟨0, Nat.zero_le _, rfl, rfl⟩
  case round =>
    obtain ⟨k, hk, rfl, hl⟩ := hrel
    by_cases hlt : k < s.size
    · have hsn := lets_snoc (s.data.toList.take k) s[k]
      rw [← takeS_snoc s k hlt, hl, Bool.true_and] at hsn
      obtain ⟨b, hb⟩ : ∃ b, isLetter s[k].toNat = b := ⟨_, rfl⟩
      rw [hb] at hsn
      have HS := Lib.hid hsn
      have hb' : (97 ≤ s[k].toNat ∧ s[k].toNat ≤ 122 ∨ 65 ≤ s[k].toNat ∧ s[k].toNat ≤ 90 ∨ 48 ≤ s[k].toNat ∧ s[k].toNat ≤ 57 ∨ s[k].toNat = 95 ∨ s[k].toNat = 45 ∨ s[k].toNat = 46) ↔ b = true := by rw [← hb]; unfold isLetter; simp
      have HB := Lib.hid hb'
      clear hsn hb hl hb'
      go_wp2_with fail
      all_goals first
        | (have hbf : b = false := by
             cases b with
             | false => rfl
             | true =>
               exfalso
               have := HB.out.2 rfl
               first
               | omega
               | (rename_i hz _; simp at hz; omega)
               | (rename_i hz _ _; simp at hz; omega)
               | (rename_i hz _ _ _; simp at hz; omega)
               | (rename_i hz _ _ _ _; simp at hz; omega)
               | (rename_i hz _ _ _ _ _; simp at hz; omega)
           subst hbf
           go_ret
           exact ⟨congrArg (fun b => Ending.returned (Value.bool b)) (by rw [isName, lets_take _ _ HS.out]; rfl), rfl⟩)
        | (have hbt : b = true := by
             first
             | exact HB.out.1 (by omega)
             | (rename_i hz; simp at hz; exact HB.out.1 (by omega))
             | (rename_i hz _; simp at hz; exact HB.out.1 (by omega))
           subst hbt
           go_round
           case rel => exact ⟨k + 1, by omega, by go_num, HS.out⟩
           case measure => simp [intOf]; omega)
    · obtain rfl : k = s.size := by omega
      rw [List.take_of_length_le (by simp)] at hl
      have HL := Lib.hid hl
      clear hl hlt
      by_cases h0 : (1 : Int) ≤ s.size
      · by_cases h40 : (s.size : Int) ≤ 40
        · go_wp2_with fail
          go_ret
          exact ⟨congrArg (fun b => Ending.returned (Value.bool b)) (by rw [isName, HL.out, decide_eq_true ⟨by omega, by omega⟩]; rfl), rfl⟩
        · have h40' : decide ((s.size : Int) ≤ 40) = false := by simpa using h40
          have H40 := Lib.hid h40
          clear h40
          go_wp2_with fail
          go_ret
          exact ⟨congrArg (fun b => Ending.returned (Value.bool b)) (by rw [isName, HL.out, decide_eq_false (fun h => by have := H40.out; omega)]; simp), rfl⟩
      · have h0' : (s.size : Int) < 1 := by omega
        clear h0
        go_wp2_with fail
        go_ret
        exact ⟨congrArg (fun b => Ending.returned (Value.bool b)) (by rw [isName, decide_eq_false (fun h => by omega), Bool.and_false]), rfl⟩
end Go.Proofs.Ytonippdileikbaa
