import Derived.Test.YtcifiibpiooeiaaR11
namespace Go.Proofs.Ytcifiibpiooeiaa
set_option linter.unusedVariables false
open Go Go.Lib Go.RowKit Go.Sort

/-! ## known -/
/-- no literal of v variables -/
def badL (v : Nat) (x : Int) : Bool := decide (x = 0 ∨ x < -(v : Int) ∨ (v : Int) < x)
set_option maxHeartbeats 1000000 in
theorem bad_any {w : World} {b bx v : Nat} (x : Int) (hx : w.cell? ⟨bx, 0, none⟩ = some (.pointer (some ⟨b, 0, none⟩))) (hv : w.cell? ⟨b, 0, none⟩ = some (.int .i64 v)) (hv6 : v ≤ 1000000) :
    Calls Try.prog 55 #[.int .i64 x, .pointer (some ⟨bx, 0, none⟩)] w fun e w' => e = .returned (.bool (badL v x)) ∧ w = w' := by
  have hw : IntKind.i64.wrap (-(v : Int)) = -(v : Int) := i64_of (by omega)
  obtain ⟨q, hq⟩ : ∃ q, badL v x = q := ⟨_, rfl⟩
  have HQ := Lib.hid hq
  rw [hq]
  clear hq hv6
  by_cases h0 : x = 0
  · subst h0
    go_enter Try.func55, Try.ntmps55
    go_wp2_with fail
    go_ret
    exact ⟨by rw [← HQ.out]; simp [badL], rfl⟩
  · have hd0 : (x == 0) = false := by simpa using h0
    by_cases h1 : x < -(v : Int)
    · have hd1 : decide (x < -(v : Int)) = true := decide_eq_true h1
      have H := Lib.hid h1
      clear h0 h1
      go_enter Try.func55, Try.ntmps55
      go_wp2_with fail
      go_ret
      exact ⟨by rw [← HQ.out]; simp [badL, H.out], rfl⟩
    · have hd1 : decide (x < -(v : Int)) = false := decide_eq_false h1
      obtain ⟨t, ht⟩ : ∃ t, decide ((v : Int) < x) = t := ⟨_, rfl⟩
      have H := Lib.hid (And.intro h0 (And.intro h1 ht))
      clear h0 h1
      go_enter Try.func55, Try.ntmps55
      go_wp2_with fail
      go_ret
      refine ⟨?_, rfl⟩
      rw [← HQ.out, ← H.out.2.2]
      unfold badL
      simp [H.out.1]
      exact fun h => by have := H.out.2.1; omega
set_option maxHeartbeats 2000000 in
theorem kknown_any {base b : Nat} {w : World} {S : St} {V : Key → Value} {lv : Value} {l : List Int} (h : Ck base b w S V) (hro : RO w lv 1 l.length (ints l)) (hl : l.length ≤ 1000000) (hv : S.v ≤ 1000000) :
    Calls Try.prog 26 #[.pointer (some ⟨b, 0, none⟩), lv] w fun e w' => e = .returned (.bool (!(l.any (badL S.v)))) ∧ Below w.heap.size w w' := by
  have hbn := Below.new w (.cells #[.pointer (some ⟨b, 0, none⟩)] 55)
  have hck := h.below hbn
  have c0 := hck.cell (i := 0) rfl
  have hbx : (w.alloc (.cells #[.pointer (some ⟨b, 0, none⟩)] 55)).cell? ⟨w.heap.size, 0, none⟩ = some (.pointer (some ⟨b, 0, none⟩)) := (Blk.new (w := w) 55 [.pointer (some ⟨b, 0, none⟩)]).cell (i := 0) rfl
  have HC := Lib.hid (contains_any 55 #[.pointer (some ⟨w.heap.size, 0, none⟩)] (badL S.v) (enters_of Try.func55 (by kernel_rfl) rfl) (hro.below hbn) (by omega) (fun x _ => bad_any x hbx c0 hv))
  have hmf : ∀ (fn : Fn) (first cap : Array Value) (w : World), (Instr.makeFunc fn first cap).run Try.prog w = .ok (.func fn first cap) w := fun _ _ _ _ => rfl
  obtain ⟨p, c, rfl⟩ := hro.form
  have HB := Lib.hid hbn
  obtain ⟨t, ht⟩ : ∃ t, l.any (badL S.v) = t := ⟨_, rfl⟩
  rw [ht] at HC ⊢
  obtain ⟨n, hn⟩ : ∃ n, l.length = n := ⟨_, rfl⟩
  rw [hn] at HC ⊢
  clear h hro hl hv hbn hck c0 hbx ht hn
  go_enter Try.func26, Try.ntmps26
  go_wp2_with fail
  refine HC.out.mono ?_; rintro e w' ⟨rfl, rfl⟩
  go_wp2_with fail
  go_ret
  exact ⟨rfl, HB.out⟩
theorem bad_none {v : Nat} {l : List Int} (h : l.any (badL v) = false) : ∀ x, x ∈ l → x ≠ 0 ∧ x.natAbs ≤ v := fun x hx => by
  have := List.any_eq_false.1 h x hx
  simp [badL] at this
  omega
end Go.Proofs.Ytcifiibpiooeiaa
