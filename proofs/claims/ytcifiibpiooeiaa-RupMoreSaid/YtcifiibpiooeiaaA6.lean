import Derived.Test.YtcifiibpiooeiaaA5
import Derived.Lib.Walk
namespace Go.Proofs.Ytcifiibpiooeiaa
set_option linter.unusedVariables false
open Go.RowKit

set_option maxHeartbeats 2000000 in
/-- IndexFunc over numbers, whatever the function value -/
theorem idx_any {w : World} {v : Value} {l : List Int} (g : Nat) (cb : Array Value) (p : Int → Bool) (eg : ∀ args w, (callFunc g args).run Try.prog w = .ok (.enter g args) w)
    (hr : RO w v 1 l.length (ints l)) (hl : l.length ≤ 1000000000000) (hc : ∀ x ∈ l, Calls Try.prog g (#[.int .i64 x] ++ cb) w fun e w' => e = .returned (.bool (p x)) ∧ w = w') :
    Calls Try.prog 59 #[v, .func (.func g) #[] cb] w fun e w' => (∃ r : Int, e = .returned (.int .i64 r) ∧ decide (0 ≤ r) = l.any p) ∧ w = w' := by
  obtain ⟨q, c, rfl⟩ := hr.form
  have hli : (l.length : Int) ≤ 1000000000000 := by omega
  have H := Lib.hid hr
  have HC := Lib.hid hc
  obtain ⟨m, hm⟩ : ∃ m, l.length = m := ⟨_, rfl⟩
  have HM := Lib.hid hm
  rw [hm] at H hli ⊢
  clear hr hc hl hm
  go_enter Try.func59, Try.ntmps59
  go_wp2_with fail
  go_loop [8] (fun i => ∃ k : Nat, k ≤ m ∧ i = .int .i64 k ∧ ∀ j, j < k → p (l.getD j 0) = false) (fun i => m - (intOf i).toNat)
  case atStart => exact ⟨0, Nat.zero_le _, rfl, fun j hj => absurd hj (Nat.not_lt_zero _)⟩
  case round =>
    obtain ⟨k, hk, rfl, hno⟩ := hrel
    have HN := Lib.hid hno
    clear hno
    by_cases hlt : k < m
    · have hat := ints_at l k (by rw [HM.out]; exact hlt)
      obtain ⟨b, o, rfl⟩ := H.out.sl hat
      have f0 := H.out.cell hat
      have hki : (k : Int) < m := by omega
      have hcall := HC.out (l.getD k 0) (by simp [List.getD, List.getElem?_eq_getElem (show k < l.length by rw [HM.out]; exact hlt)])
      have hkw : IntKind.i64.wrap ((k : Int) + 1) = (k : Int) + 1 := i64_of (by omega)
      obtain ⟨x, hx⟩ : ∃ x, l.getD k 0 = x := ⟨_, rfl⟩
      rw [hx] at f0 hcall
      have HX := Lib.hid hx
      clear hat hx
      cases hp : p x with
      | true =>
        rw [hp] at hcall
        replace hcall := Lib.hid hcall
        have HP := Lib.hid hp
        clear hp
        go_wp2_with (go_at_fn g; refine hcall.out.mono ?_; rintro e w' ⟨rfl, rfl⟩)
        go_ret
        refine ⟨⟨k, rfl, ?_⟩, rfl⟩
        rw [show l.any p = true from List.any_eq_true.2 ⟨x, by rw [← HX.out]; simp [List.getD, List.getElem?_eq_getElem (show k < l.length by rw [HM.out]; omega)], HP.out⟩]
        simp
      | false =>
        rw [hp] at hcall
        replace hcall := Lib.hid hcall
        have HP := Lib.hid hp
        have HLT := Lib.hid hlt
        clear hp hlt
        go_wp2_with (go_at_fn g; refine hcall.out.mono ?_; rintro e w' ⟨rfl, rfl⟩)
        go_round
        case rel => exact ⟨k + 1, HLT.out, by go_num, fun j hj => by
                      by_cases e : j = k
                      · subst e; rw [HX.out]; exact HP.out
                      · exact HN.out j (by omega)⟩
        case measure => simp [intOf]; omega
    · obtain rfl : k = m := by omega
      clear hlt
      go_wp2_with fail
      go_ret
      refine ⟨⟨-1, rfl, ?_⟩, rfl⟩
      rw [show l.any p = false from List.any_eq_false.2 fun x hx => ?_]
      · simp
      · obtain ⟨i, hi, e⟩ := List.getElem_of_mem hx
        have := HN.out i (by rw [← HM.out]; exact hi)
        simpa [List.getD, List.getElem?_eq_getElem hi, e] using this

set_option maxHeartbeats 1000000 in
theorem contains_any {w : World} {v : Value} {l : List Int} (g : Nat) (cb : Array Value) (p : Int → Bool) (eg : ∀ args w, (callFunc g args).run Try.prog w = .ok (.enter g args) w)
    (hr : RO w v 1 l.length (ints l)) (hl : l.length ≤ 1000000000000) (hc : ∀ x ∈ l, Calls Try.prog g (#[.int .i64 x] ++ cb) w fun e w' => e = .returned (.bool (p x)) ∧ w = w') :
    Calls Try.prog 29 #[v, .func (.func g) #[] cb] w fun e w' => e = .returned (.bool (l.any p)) ∧ w = w' := by
  have HI := Lib.hid (idx_any g cb p eg hr hl hc)
  obtain ⟨q, c, rfl⟩ := hr.form
  obtain ⟨t, ht⟩ : ∃ t, l.any p = t := ⟨_, rfl⟩
  rw [ht] at HI ⊢
  clear hr hl hc ht
  go_enter Try.func29, Try.ntmps29
  go_wp2_with fail
  refine HI.out.mono ?_; rintro e w' ⟨⟨r, rfl, hr⟩, rfl⟩
  have HR := Lib.hid hr
  clear hr
  go_wp2_with fail
  go_ret
  exact ⟨by rw [← HR.out]; rfl, rfl⟩

/-- a slice's value by its parts -/
def slv (s : Option Addr × Nat × Nat) : Value := .slice s.1 s.2.1 s.2.2
def slvs (l : List (Option Addr × Nat × Nat)) : List Value := l.map slv
theorem slvs_at (l : List (Option Addr × Nat × Nat)) (i : Nat) (h : i < l.length) : (slvs l)[i]? = some (slv (l.getD i default)) := by
  simp [slvs, List.getD, List.getElem?_eq_getElem h]
theorem any_range_true {m k : Nat} {P : Nat → Bool} (hk : k < m) (hp : P k = true) : (List.range m).any P = true := List.any_eq_true.2 ⟨k, List.mem_range.2 hk, hp⟩
theorem any_range_false {m : Nat} {P : Nat → Bool} (h : ∀ j, j < m → P j = false) : (List.range m).any P = false := List.any_eq_false.2 fun x hx => by rw [h x (List.mem_range.1 hx)]; simp

set_option maxHeartbeats 2000000 in
/-- IndexFunc over lists, whatever the function value -/
theorem idxl_any {w : World} {v : Value} {m : Nat} {sls : List (Option Addr × Nat × Nat)} (g : Nat) (cb : Array Value) (P : Nat → Bool) (eg : ∀ args w, (callFunc g args).run Try.prog w = .ok (.enter g args) w)
    (hr : RO w v 1 m (slvs sls)) (hm : sls.length = m) (hl : m ≤ 1000000000000) (hc : ∀ j, j < m → Calls Try.prog g (#[slv (sls.getD j default)] ++ cb) w fun e w' => e = .returned (.bool (P j)) ∧ w = w') :
    Calls Try.prog 78 #[v, .func (.func g) #[] cb] w fun e w' => (∃ r : Int, e = .returned (.int .i64 r) ∧ decide (0 ≤ r) = (List.range m).any P) ∧ w = w' := by
  obtain ⟨q, c, rfl⟩ := hr.form
  have hli : (m : Int) ≤ 1000000000000 := by omega
  have H := Lib.hid hr
  have HC := Lib.hid hc
  have HM := Lib.hid hm
  clear hr hc hl hm
  go_enter Try.func78, Try.ntmps78
  go_wp2_with fail
  go_loop [8] (fun i => ∃ k : Nat, k ≤ m ∧ i = .int .i64 k ∧ ∀ j, j < k → P j = false) (fun i => m - (intOf i).toNat)
  case atStart => exact ⟨0, Nat.zero_le _, rfl, fun j hj => absurd hj (Nat.not_lt_zero _)⟩
  case round =>
    obtain ⟨k, hk, rfl, hno⟩ := hrel
    have HN := Lib.hid hno
    clear hno
    by_cases hlt : k < m
    · have hat := slvs_at sls k (by rw [HM.out]; exact hlt)
      obtain ⟨b, o, rfl⟩ := H.out.sl hat
      have f0 := H.out.cell hat
      have hki : (k : Int) < m := by omega
      have hcall := HC.out k hlt
      have hkw : IntKind.i64.wrap ((k : Int) + 1) = (k : Int) + 1 := i64_of (by omega)
      unfold slv at f0 hcall
      generalize (sls.getD k default).1 = s1 at f0 hcall
      generalize (sls.getD k default).2.1 = s2 at f0 hcall
      generalize (sls.getD k default).2.2 = s3 at f0 hcall
      clear hat
      cases hp : P k with
      | true =>
        rw [hp] at hcall
        replace hcall := Lib.hid hcall
        have HP := Lib.hid (And.intro hp hlt)
        clear hp hlt
        go_wp2_with (go_at_fn g; refine hcall.out.mono ?_; rintro e w' ⟨rfl, rfl⟩)
        go_ret
        refine ⟨⟨k, rfl, ?_⟩, rfl⟩
        rw [any_range_true HP.out.2 HP.out.1]
        simp
      | false =>
        rw [hp] at hcall
        replace hcall := Lib.hid hcall
        have HP := Lib.hid hp
        have HLT := Lib.hid hlt
        clear hp hlt
        go_wp2_with (go_at_fn g; refine hcall.out.mono ?_; rintro e w' ⟨rfl, rfl⟩)
        go_round
        case rel => exact ⟨k + 1, HLT.out, by go_num, fun j hj => by
                      by_cases e : j = k
                      · subst e; exact HP.out
                      · exact HN.out j (by omega)⟩
        case measure => simp [intOf]; omega
    · obtain rfl : k = m := by omega
      clear hlt
      go_wp2_with fail
      go_ret
      refine ⟨⟨-1, rfl, ?_⟩, rfl⟩
      rw [any_range_false HN.out]
      simp

set_option maxHeartbeats 1000000 in
theorem containsl_any {w : World} {v : Value} {m : Nat} {sls : List (Option Addr × Nat × Nat)} (g : Nat) (cb : Array Value) (P : Nat → Bool) (eg : ∀ args w, (callFunc g args).run Try.prog w = .ok (.enter g args) w)
    (hr : RO w v 1 m (slvs sls)) (hm : sls.length = m) (hl : m ≤ 1000000000000) (hc : ∀ j, j < m → Calls Try.prog g (#[slv (sls.getD j default)] ++ cb) w fun e w' => e = .returned (.bool (P j)) ∧ w = w') :
    Calls Try.prog 51 #[v, .func (.func g) #[] cb] w fun e w' => e = .returned (.bool ((List.range m).any P)) ∧ w = w' := by
  have HI := Lib.hid (idxl_any g cb P eg hr hm hl hc)
  obtain ⟨q, c, rfl⟩ := hr.form
  obtain ⟨t, ht⟩ : ∃ t, (List.range m).any P = t := ⟨_, rfl⟩
  rw [ht] at HI ⊢
  clear hr hl hc ht hm
  go_enter Try.func51, Try.ntmps51
  go_wp2_with fail
  refine HI.out.mono ?_; rintro e w' ⟨⟨r, rfl, hr⟩, rfl⟩
  have HR := Lib.hid hr
  clear hr
  go_wp2_with fail
  go_ret
  exact ⟨by rw [← HR.out]; rfl, rfl⟩
end Go.Proofs.Ytcifiibpiooeiaa
