import Derived.Test.YtonippdileikbaaRows
import Derived.Test.YtonippdileikbaaK1
namespace Go.Proofs.Ytonippdileikbaa
set_option linter.unusedVariables false
open Go.RowKit

theorem nan_any (a : Int) (w : World) : Calls Try.prog 40 #[.int .i64 a] w fun e w' => e = .returned (.bool false) ∧ w = w' := by
  go_enter Try.func40, Try.ntmps40
  go_wp2_with fail
  go_ret
  exact ⟨by simp, rfl⟩

def cmpI (a b : Int) : Int := if a < b then -1 else if b < a then 1 else 0

theorem compare_any (a b : Int) (w : World) : Calls Try.prog 35 #[.int .i64 a, .int .i64 b] w fun e w' => e = .returned (.int .i64 (cmpI a b)) ∧ w = w' := by
  have HA := Lib.hid (nan_any a w)
  have HB := Lib.hid (nan_any b w)
  go_enter Try.func35, Try.ntmps35
  go_wp2_with fail
  refine HA.out.mono ?_; rintro e w' ⟨rfl, rfl⟩
  go_wp2_with fail
  refine HB.out.mono ?_; rintro e w' ⟨rfl, rfl⟩
  by_cases h1 : a < b
  · have e : cmpI a b = -1 := by rw [cmpI, if_pos h1]
    go_wp2_with fail
    go_ret
    exact ⟨by rw [e]; rfl, rfl⟩
  · by_cases h2 : b < a
    · have e : cmpI a b = 1 := by rw [cmpI, if_neg h1, if_pos h2]
      have h1' : b ≤ a := by omega
      clear h1
      go_wp2_with fail
      go_ret
      exact ⟨by rw [e]; rfl, rfl⟩
    · have e : cmpI a b = 0 := by rw [cmpI, if_neg h1, if_neg h2]
      have h1' : b ≤ a := by omega
      have h2' : a ≤ b := by omega
      clear h1 h2
      go_wp2_with fail
      go_ret
      exact ⟨by rw [e]; rfl, rfl⟩

/-- the first that is not 0 -/
def orI : List Int → Int
  | [] => 0
  | a :: l => if a = 0 then orI l else a
theorem orI_skip (l : List Int) : ∀ k, (∀ i, i < k → l.getD i 0 = 0) → k ≤ l.length → orI l = orI (l.drop k)
  | 0, _, _ => rfl
  | k + 1, h, hk => by
    rw [orI_skip l k (fun i hi => h i (by omega)) (by omega), List.drop_eq_getElem_cons (by omega)]
    have := h k (by omega)
    rw [List.getD, List.getElem?_eq_getElem (by omega)] at this
    simp only [Option.getD_some] at this
    rw [orI, if_pos this]

theorem or_any (v : Value) (l : List Int) (w : World) (hv : RO w v 1 l.length (ints l)) (hl : l.length ≤ 1000) : Calls Try.prog 34 #[v] w fun e w' => e = .returned (.int .i64 (orI l)) ∧ w = w' := by
  obtain ⟨p, c, rfl⟩ := hv.form
  have hl' : (l.length : Int) ≤ 1000 := by omega
  have H := Lib.hid hv
  clear hv
  go_enter Try.func34, Try.ntmps34
  go_wp2_with fail
  go_loop [8] (fun i => ∃ k : Nat, k ≤ l.length ∧ (∀ j, j < k → l.getD j 0 = 0) ∧ i = .int .i64 k) (fun i => l.length - (intOf i).toNat)
  case atStart => exact ⟨0, Nat.zero_le _, fun j hj => absurd hj (Nat.not_lt_zero _), rfl⟩
  case round =>
    obtain ⟨k, hk, hz, rfl⟩ := hrel
    by_cases hlt : k < l.length
    · obtain ⟨b, o, rfl⟩ := H.out.sl (ints_at l k hlt)
      have hc := H.out.cell (ints_at l k hlt)
      have hs := orI_skip l k hz (by omega)
      rw [List.drop_eq_getElem_cons hlt, orI] at hs
      have e1 : l[k] = l.getD k 0 := by rw [List.getD, List.getElem?_eq_getElem hlt]; rfl
      rw [e1] at hs
      have HS := Lib.hid (And.intro hs hz)
      obtain ⟨X, hX⟩ : ∃ X, l.getD k 0 = X := ⟨_, rfl⟩
      rw [hX] at hc
      have HX := Lib.hid hX
      clear hs hz e1 hX
      by_cases h0 : X = 0
      · subst h0
        go_wp2_with fail
        go_round
        case rel => exact ⟨k + 1, by omega, fun j hj => by
                        by_cases e : j = k
                        · exact e ▸ HX.out
                        · exact HS.out.2 j (by omega), by go_num⟩
        case measure => simp [intOf]; omega
      · have hd : (X != 0) = true := by simp [h0]
        have H0 := Lib.hid h0
        clear h0
        go_wp2_with fail
        go_ret
        exact ⟨by rw [HS.out.1, HX.out, if_neg H0.out]; rfl, rfl⟩
    · obtain rfl : k = l.length := by omega
      have HS := Lib.hid hz
      clear hz
      go_wp2_with fail
      go_ret
      have hs := orI_skip l l.length HS.out (Nat.le_refl _)
      rw [List.drop_length] at hs
      exact ⟨by rw [hs]; rfl, rfl⟩
end Go.Proofs.Ytonippdileikbaa
