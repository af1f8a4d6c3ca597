import Derived.Test.YtonippdileikbaaA8
namespace Go.Proofs.Ytonippdileikbaa
set_option linter.unusedVariables false
open Go.RowKit

theorem snan_any (a : Int) (w : World) : Calls Try.prog 39 #[.int .i64 a] w fun e w' => e = .returned (.bool false) ∧ w = w' := by
  go_enter Try.func39, Try.ntmps39
  go_wp2_with fail
  go_ret
  exact ⟨by simp, rfl⟩

theorem less_int (a b : Int) (w : World) : Calls Try.prog 38 #[.int .i64 a, .int .i64 b] w fun e w' => e = .returned (.bool (decide (a < b))) ∧ w = w' := by
  have HA := Lib.hid (nan_any a w)
  have HB := Lib.hid (nan_any b w)
  go_enter Try.func38, Try.ntmps38
  go_wp2_with fail
  refine HA.out.mono ?_; rintro e w' ⟨rfl, rfl⟩
  go_wp2_with fail
  go_ret
  exact ⟨rfl, rfl⟩

/-- where t belongs -/
structure Lower (L : List Int) (t : Int) (i : Nat) : Prop where
  le : i ≤ L.length
  lo : ∀ a, a < i → L.getD a 0 < t
  hi : ∀ a, i ≤ a → a < L.length → t ≤ L.getD a 0

def foundB (L : List Int) (t : Int) (i : Nat) : Bool := decide (i < L.length ∧ L.getD i 0 = t)

set_option maxHeartbeats 2000000 in
theorem search_any (w : World) (v : Value) (L : List Int) (t : Int) (hv : RO w v 1 L.length (ints L)) (hl : L.length ≤ 1000000) (hs : ∀ a b, a ≤ b → b < L.length → L.getD a 0 ≤ L.getD b 0) :
    Calls Try.prog 32 #[v, .int .i64 t] w fun e w' => ∃ i, Lower L t i ∧ e = .returned (.tuple #[.int .i64 i, .bool (foundB L t i)]) ∧ w = w' := by
  obtain ⟨p, c, rfl⟩ := hv.form
  have hl' : (L.length : Int) ≤ 1000000 := by omega
  have H := Lib.hid (And.intro hv hs)
  clear hv hs hl
  go_enter Try.func32, Try.ntmps32
  go_wp2_with fail
  go_loop [7, 8] (fun i j => ∃ a b : Nat, a ≤ b ∧ b ≤ L.length ∧ i = .int .i64 a ∧ j = .int .i64 b ∧ (∀ x, x < a → L.getD x 0 < t) ∧ (∀ x, b ≤ x → x < L.length → t ≤ L.getD x 0)) (fun i j => (intOf j).toNat - (intOf i).toNat)
  case atStart => exact ⟨0, L.length, Nat.zero_le _, Nat.le_refl _, rfl, rfl, fun x hx => absurd hx (Nat.not_lt_zero _), fun x h1 h2 => absurd h2 (by omega)⟩
  case round =>
    obtain ⟨a, b, hab, hb, rfl, rfl, hlo, hhi⟩ := hrel
    have HR := Lib.hid (And.intro hlo hhi)
    clear hlo hhi
    by_cases hlt : a < b
    · have hm : (a + b) / 2 < L.length := by omega
      obtain ⟨bb, o, rfl⟩ := H.out.1.sl (ints_at L _ hm)
      have hc := H.out.1.cell (ints_at L _ hm)
      have hai : (a : Int) < b := by omega
      obtain ⟨X, hX⟩ : ∃ X, L.getD ((a + b) / 2) 0 = X := ⟨_, rfl⟩
      rw [hX] at hc
      have HX := Lib.hid hX
      have HL := Lib.hid (less_int X t w)
      clear hX
      go_wp2_with fail
      refine HL.out.mono ?_; rintro e w' ⟨rfl, rfl⟩
      by_cases hXt : X < t
      · have HT := Lib.hid hXt
        go_wp2_with fail
        go_round
        case rel =>
          refine ⟨(a + b) / 2 + 1, b, by omega, hb, congrArg (Value.int .i64) (by omega), rfl, fun x hx => ?_, HR.out.2⟩
          have := H.out.2 x ((a + b) / 2) (by omega) hm
          have := HX.out; have := HT.out; omega
        case measure => simp [intOf]; omega
      · have hXt' : t ≤ X := by omega
        have HT := Lib.hid hXt'
        clear hXt
        go_wp2_with fail
        go_round
        case rel =>
          refine ⟨a, (a + b) / 2, by omega, by omega, rfl, congrArg (Value.int .i64) (by omega), HR.out.1, fun x hx hxl => ?_⟩
          have := H.out.2 ((a + b) / 2) x hx hxl
          have := HX.out; have := HT.out; omega
        case measure => simp [intOf]; omega
    · obtain rfl : a = b := by omega
      have HLow : Hid (Lower L t a) := Lib.hid ⟨hb, HR.out.1, HR.out.2⟩
      clear hlt hab
      by_cases hin : a < L.length
      · obtain ⟨bb, o, rfl⟩ := H.out.1.sl (ints_at L _ hin)
        have hc := H.out.1.cell (ints_at L _ hin)
        obtain ⟨X, hX⟩ : ∃ X, L.getD a 0 = X := ⟨_, rfl⟩
        rw [hX] at hc
        have HX := Lib.hid (And.intro hX hin)
        have hin' : (a : Int) < L.length := by omega
        have HN := Lib.hid (snan_any X w)
        clear hX hb
        by_cases hXt : X = t
        · subst hXt
          go_wp2_with fail
          go_ret2
          exact ⟨a, HLow.out, congrArg (fun b => Ending.returned (Value.tuple #[.int .i64 a, .bool b])) (decide_eq_true (p := a < L.length ∧ L.getD a 0 = X) ⟨HX.out.2, HX.out.1⟩).symm, rfl⟩
        · have hd : (X == t) = false := by simp [hXt]
          have HT := Lib.hid hd
          clear hXt
          go_wp2_with fail
          refine HN.out.mono ?_; rintro e w' ⟨rfl, rfl⟩
          go_wp2_with fail
          go_ret2
          exact ⟨a, HLow.out, congrArg (fun b => Ending.returned (Value.tuple #[.int .i64 a, .bool b])) (decide_eq_false (p := a < L.length ∧ L.getD a 0 = t) (fun h => by have h1 := HT.out; have h2 := HX.out.1; have h3 := h.2; rw [← h2, h3] at h1; simp at h1)).symm, rfl⟩
      · have hin' : (L.length : Int) ≤ a := by omega
        have HX := Lib.hid hin
        clear hin hb
        go_wp2_with fail
        go_ret2
        exact ⟨a, HLow.out, congrArg (fun b => Ending.returned (Value.tuple #[.int .i64 a, .bool b])) (decide_eq_false (p := a < L.length ∧ L.getD a 0 = t) (fun h => by have := h.1; omega)).symm, rfl⟩
end Go.Proofs.Ytonippdileikbaa
