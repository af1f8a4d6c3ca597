import Derived.Test.YtcifiibpiooeiaaRows
import Derived.Test.YtcifiibpiooeiaaK2
import Derived.Test.YtcifiibpiooeiaaP1
namespace Go.Proofs.Ytcifiibpiooeiaa
set_option linter.unusedVariables false
open Go.RowKit

theorem i64_of {x : Int} (h : -9223372036854775808 ≤ x ∧ x ≤ 9223372036854775807) : IntKind.i64.wrap x = x := IntWalk.i64_in _ h

/-- the first that is not 0 -/
def orI : List Int → Int
  | [] => 0
  | a :: l => if a = 0 then orI l else a
theorem orI_skip (l : List Int) : ∀ k, (∀ i, i < k → l.getD i 0 = 0) → k ≤ l.length → orI l = orI (l.drop k)
  | 0, _, _ => rfl
  | k + 1, h, hk => by
    rw [orI_skip l k (fun i hi => h i (by omega)) (by omega), List.drop_eq_getElem_cons (by omega)]
    have := h k (by omega)
    rw [List.getD, List.getElem?_eq_getElem (by omega)] at this
    simp only [Option.getD_some] at this
    rw [orI, if_pos this]

theorem or_any (v : Value) (l : List Int) (w : World) (hv : RO w v 1 l.length (ints l)) (hl : l.length ≤ 1000) : Calls Try.prog 63 #[v] w fun e w' => e = .returned (.int .i64 (orI l)) ∧ w = w' := by
  obtain ⟨p, c, rfl⟩ := hv.form
  have hl' : (l.length : Int) ≤ 1000 := by omega
  have H := Lib.hid hv
  clear hv
  go_enter Try.func63, Try.ntmps63
  go_wp2_with fail
  go_loop [8] (fun i => ∃ k : Nat, k ≤ l.length ∧ (∀ j, j < k → l.getD j 0 = 0) ∧ i = .int .i64 k) (fun i => l.length - (intOf i).toNat)
  case atStart => exact ⟨0, Nat.zero_le _, fun j hj => absurd hj (Nat.not_lt_zero _), rfl⟩
  case round =>
    obtain ⟨k, hk, hz, rfl⟩ := hrel
    by_cases hlt : k < l.length
    · obtain ⟨b, o, rfl⟩ := H.out.sl (ints_at l k hlt)
      have hc := H.out.cell (ints_at l k hlt)
      have hs := orI_skip l k hz (by omega)
      rw [List.drop_eq_getElem_cons hlt, orI] at hs
      have e1 : l[k] = l.getD k 0 := by rw [List.getD, List.getElem?_eq_getElem hlt]; rfl
      rw [e1] at hs
      have HS := Lib.hid (And.intro hs hz)
      obtain ⟨X, hX⟩ : ∃ X, l.getD k 0 = X := ⟨_, rfl⟩
      rw [hX] at hc
      have HX := Lib.hid hX
      clear hs hz e1 hX
      by_cases h0 : X = 0
      · subst h0
        go_wp2_with fail
        go_round
        case rel => exact ⟨k + 1, by omega, fun j hj => by
                        by_cases e : j = k
                        · exact e ▸ HX.out
                        · exact HS.out.2 j (by omega), by go_num⟩
        case measure => simp [intOf]; omega
      · have hd : (X != 0) = true := by simp [h0]
        have H0 := Lib.hid h0
        clear h0
        go_wp2_with fail
        go_ret
        exact ⟨by rw [HS.out.1, HX.out, if_neg H0.out]; rfl, rfl⟩
    · obtain rfl : k = l.length := by omega
      have HS := Lib.hid hz
      clear hz
      go_wp2_with fail
      go_ret
      have hs := orI_skip l l.length HS.out (Nat.le_refl _)
      rw [List.drop_length] at hs
      exact ⟨by rw [hs]; rfl, rfl⟩

set_option maxHeartbeats 1000000 in
/-- the variable of a literal -/
theorem of_any (x : Int) (h : x.natAbs ≤ 1000000000) (w : World) : Calls Try.prog 50 #[.int .i64 x] w fun e w' => e = .returned (.int .i64 (x.natAbs : Int)) ∧ w = w' := by
  go_enter Try.func50, Try.ntmps50
  by_cases hn : x < 0
  · have hm : (if x < -1000000000 then (-1000000000 : Int) else x) = x := if_neg (by omega)
    have hle : -1000000000 ≤ x := by omega
    have hw : IntKind.i64.wrap (-x) = -x := i64_of (by omega)
    have he : ((x.natAbs : Nat) : Int) = -x := by omega
    rw [he]
    clear h he
    go_wp2_with fail
    all_goals first
      | (exfalso; omega)
      | skip
    go_ret
    exact ⟨by first | rfl | (congr 2; omega), rfl⟩
  · have hn' : (0 : Int) ≤ x := by omega
    have he : ((x.natAbs : Nat) : Int) = x := by omega
    rw [he]
    clear h he hn
    go_wp2_with fail
    go_ret
    exact ⟨rfl, rfl⟩

/-- how plain compares two literals -/
def kcmp (a b : Int) : Int := if ((a.natAbs : Int) - b.natAbs) = 0 then a - b else (a.natAbs : Int) - b.natAbs
theorem kcmp_lt (a b : Int) : kcmp a b < 0 ↔ klt a b := by unfold kcmp klt; split <;> omega

set_option maxHeartbeats 1000000 in
theorem cmp_any (a b : Int) (ha : a.natAbs ≤ 1000000000) (hb : b.natAbs ≤ 1000000000) (w : World) : Calls Try.prog 62 #[.int .i64 a, .int .i64 b] w fun e w' => e = .returned (.int .i64 (kcmp a b)) ∧ ∃ o, w' = w.alloc o := by
  have HA := Lib.hid (of_any a ha w)
  have HB := Lib.hid (of_any b hb w)
  have w1 : IntKind.i64.wrap ((a.natAbs : Int) - b.natAbs) = (a.natAbs : Int) - b.natAbs := i64_of (by omega)
  have w2 : IntKind.i64.wrap (a - b) = a - b := i64_of (by omega)
  have HO := Lib.hid (or_any (.slice (some ⟨w.heap.size, 0, none⟩) 2 2) [(a.natAbs : Int) - b.natAbs, a - b] (w.alloc (.cells #[.int .i64 ((a.natAbs : Int) - b.natAbs), .int .i64 (a - b)] 3))
    ⟨rfl, _, _, rfl, fun j u hj => ⟨_, 0, rfl, by
      rw [Nat.zero_add]
      exact (Blk.new (w := w) 3 [.int .i64 ((a.natAbs : Int) - b.natAbs), .int .i64 (a - b)]).cell hj⟩⟩ (by simp))
  have he : orI [(a.natAbs : Int) - b.natAbs, a - b] = kcmp a b := by
    unfold kcmp
    simp only [orI]
    split
    · split <;> omega
    · rfl
  rw [he] at HO
  clear he ha hb
  obtain ⟨x, hx⟩ : ∃ x : Int, (a.natAbs : Int) = x := ⟨_, rfl⟩
  obtain ⟨y, hy⟩ : ∃ y : Int, (b.natAbs : Int) = y := ⟨_, rfl⟩
  rw [hx] at w1 HO HA
  rw [hy] at w1 HO HB
  generalize kcmp a b = k at HO ⊢
  clear hx hy
  go_enter Try.func62, Try.ntmps62
  go_wp2_with fail
  refine HA.out.mono ?_; rintro e w' ⟨rfl, rfl⟩
  go_wp2_with fail
  refine HB.out.mono ?_; rintro e w' ⟨rfl, rfl⟩
  go_wp2_with fail
  refine HO.out.mono ?_; rintro e w' ⟨rfl, rfl⟩
  go_wp2_with fail
  go_ret
  exact ⟨rfl, _, rfl⟩
end Go.Proofs.Ytcifiibpiooeiaa
