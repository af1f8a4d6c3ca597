import Derived.Test.YtkoggfahjlnecaaGreatDoorN1
namespace Go.Proofs.YtkoggfahjlnecaaGreatDoor
set_option linter.unusedVariables false
open Go.RowKit

/-- the number of decimal digits, at most so much -/
def smallP (most : Nat) (ds : List Nat) : Nat := ds.foldl (fun n d => min (10 * n + d) most) 0
theorem smallP_le (most : Nat) (ds : List Nat) : smallP most ds ≤ most := by
  unfold smallP
  suffices h : ∀ n, n ≤ most → ds.foldl (fun n d => min (10 * n + d) most) n ≤ most from h 0 (Nat.zero_le _)
  induction ds with
  | nil => intro n h; exact h
  | cons d ds ih => intro n h; exact ih _ (Nat.min_le_right _ _)
theorem smallP_take (most : Nat) (ds : List Nat) {k : Nat} (h : k < ds.length) : smallP most (ds.take (k + 1)) = min (10 * smallP most (ds.take k) + ds.getD k 0) most := by
  rw [List.take_add_one, List.getElem?_eq_getElem h]
  unfold smallP
  rw [List.foldl_append]
  simp only [Option.toList, List.foldl_cons, List.foldl_nil, List.getD, List.getElem?_eq_getElem h, Option.getD_some]
theorem natI_at (ds : List Nat) (k : Nat) (h : k < ds.length) : (ints (natI ds))[k]? = some (.int .i64 ((ds.getD k 0 : Nat) : Int)) := by
  simp [natI, ints, List.getD, List.getElem?_eq_getElem h]
set_option maxRecDepth 100000 in
set_option maxHeartbeats 4000000 in
theorem small_any {w : World} {v : Value} (ds : List Nat) (most : Nat) (hv : RO w v 1 ds.length (ints (natI ds))) (hd : ∀ d ∈ ds, d < 16) (hm : most ≤ 1000000) (hl : ds.length ≤ 1000) : Calls Tryz.prog 98 #[v, .int .i64 most] w fun e w' => e = .returned (.int .i64 (smallP most ds)) ∧ w = w' := by
  obtain ⟨p, c, rfl⟩ := hv.form
  obtain ⟨n, hn⟩ : ∃ n, ds.length = n := ⟨_, rfl⟩
  have hk : ∀ k, k < n → ds.getD k 0 < 16 := fun k h => hd _ (by simp [List.getD, List.getElem?_eq_getElem (show k < ds.length by omega)])
  have H := Lib.hid (And.intro hv (And.intro hn hk))
  rw [hn]
  have hni : (n : Int) ≤ 1000 := by omega
  have hmi : (most : Int) ≤ 1000000 := by omega
  clear hv hk hd hl hm hn
  go_enter Tryz.func98, Tryz.ntmps98
  go_wp2_with fail
  go_loop [10, 5] (fun iv sv => ∃ i : Nat, i ≤ n ∧ iv = .int .i64 i ∧ sv = .int .i64 (smallP most (ds.take i))) (fun iv _ => n - (intOf iv).toNat)
  case atStart => exact ⟨0, Nat.zero_le _, rfl, rfl⟩
  case round =>
    obtain ⟨i, hi, rfl, rfl⟩ := hrel
    by_cases hlt : i < n
    · have hil : i < ds.length := by rw [H.out.2.1]; exact hlt
      have hat := natI_at ds i hil
      obtain ⟨b, o, hp⟩ := H.out.1.sl hat
      subst hp
      have hc := H.out.1.cell hat
      have hst := smallP_take most ds hil
      have hle := smallP_le most (ds.take i)
      have hd16 := H.out.2.2 i hlt
      generalize ds.getD i 0 = d at *
      generalize smallP most (ds.take i) = m at *
      have hii : (i : Int) < n := by omega
      have q1 : IntKind.i64.wrap (10 * (m : Int)) = 10 * (m : Int) := i64_of (by omega)
      have q2 : IntKind.i64.wrap (10 * (m : Int) + (d : Int)) = 10 * (m : Int) + (d : Int) := i64_of (by omega)
      have hiw : IntKind.i64.wrap ((i : Int) + 1) = (i : Int) + 1 := i64_of (by omega)
      have HS := Lib.hid (And.intro hst hlt)
      clear hst hle hd16 hat hil hi hlt
      go_wp2_with fail
      go_round
      case rel => exact ⟨i + 1, HS.out.2, by go_num, by rw [HS.out.1]; congr 1; omega⟩
      case measure => have := HS.out.2; simp [intOf]; omega
    · obtain rfl : i = n := by omega
      rw [List.take_of_length_le (by have := H.out.2.1; omega)]
      clear hi hlt
      go_wp2_with fail
      go_ret
      exact ⟨rfl, rfl⟩
/-! the letter of a base -/
set_option maxRecDepth 100000 in
set_option maxHeartbeats 1000000 in
theorem base_h (w : World) : Calls Tryz.prog 133 #[.int .u8 104] w fun e w' => e = .returned (.int .i64 16) ∧ w = w' := by
  go_enter Tryz.func133, Tryz.ntmps133
  go_wp2_with fail
  go_ret
  exact ⟨rfl, rfl⟩
set_option maxRecDepth 100000 in
set_option maxHeartbeats 1000000 in
theorem base_d (w : World) : Calls Tryz.prog 133 #[.int .u8 100] w fun e w' => e = .returned (.int .i64 10) ∧ w = w' := by
  go_enter Tryz.func133, Tryz.ntmps133
  go_wp2_with fail
  go_ret
  exact ⟨rfl, rfl⟩
end Go.Proofs.YtkoggfahjlnecaaGreatDoor
