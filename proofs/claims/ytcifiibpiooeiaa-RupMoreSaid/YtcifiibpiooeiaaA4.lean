import Derived.Test.YtcifiibpiooeiaaA3
namespace Go.Proofs.Ytcifiibpiooeiaa
set_option linter.unusedVariables false
open Go.RowKit

theorem TInts : SlTy Try.prog 23 3 1 8 (.int .i64 0) := SlTy.of Try.underlying23 (by kernel_rfl) rfl (by decide)
theorem TLists : SlTy Try.prog 22 23 1 24 (.slice none 0 0) := SlTy.of Try.underlying22 (by kernel_rfl) rfl (by decide)

set_option maxRecDepth 100000 in
theorem clone_ints {w : World} {v : Value} {m : Nat} {xs : List Value} (h : RO w v 1 m xs) (h1 : ∀ u ∈ xs, u.oneCell' = true) (hm : m ≤ 1000000000000) : Calls Try.prog 60 #[v] w fun e w' => ∃ v', e = .returned v' ∧ w'.ownsRow w.heap.size 3 1 v' m xs ∧ Below w.heap.size w w' := by
  have H := Lib.hid h
  have H1 := Lib.hid h1
  obtain ⟨hl, p, c, rfl, hcell⟩ := h
  cases p with
  | none =>
    have hx : xs = [] := by
      cases xs with
      | nil => rfl
      | cons u r => obtain ⟨b, o', hb, _⟩ := hcell 0 u rfl; cases hb
    subst hx
    obtain rfl : m = 0 := by simpa using hl.symm
    have hnil := fun w' => Lib.run_eql_slice_nil (P := Try.prog) w' 23 3 none 0 c 0 0 Try.underlying23
    clear H H1 h1 hcell hl
    go_enter Try.func60, Try.ntmps60
    go_wp2_with fail
    go_ret
    exact ⟨_, rfl, ⟨rfl, .inl ⟨rfl, rfl⟩⟩, Below.refl _ _⟩
  | some ad =>
    have hnil := fun w' => Lib.run_eql_slice_nil (P := Try.prog) w' 23 3 (some ad) m c 0 0 Try.underlying23
    have hs0 := (Blk.new (w := w) 3 []).own (n := 0) (size := 1) (by simp) (Nat.zero_le _) w.heap.size (Nat.le_refl _)
    have HS := Lib.hid (And.intro hs0 (And.intro (H.out.below (Below.new w (.cells #[] 3))) (Below.new w (.cells #[] 3))))
    clear hcell hl h1 hs0
    go_enter Try.func60, Try.ntmps60
    go_wp2_with (at_builtin; go_must (refine wpList_appR rfl  _ _ 23 rfl TInts w.heap.size (.slice (some ⟨w.heap.size, 0, none⟩) 0 0) 0 [] rfl HS.out.1 _ m xs rfl HS.out.2.1 H1.out (by omega) (by omega) (by simp) ?_); intro v4 w4 happ; have HP := Lib.hid happ; clear happ)
    have hf := ownsRow_le HP.out.own
    go_ret
    refine ⟨_, rfl, by have := HP.out.own; rwa [Nat.zero_add, List.nil_append] at this, HP.out.below HS.out.2.2 (by simp) ?_⟩
    intro k hk
    have : k = w.heap.size := by simpa [Value.ownBlock] using hk.symm
    omega
set_option maxRecDepth 100000 in
theorem clone_lists {w : World} {v : Value} {m : Nat} {xs : List Value} (h : RO w v 1 m xs) (h1 : ∀ u ∈ xs, u.oneCell' = true) (hm : m ≤ 1000000000000) : Calls Try.prog 28 #[v] w fun e w' => ∃ v', e = .returned v' ∧ w'.ownsRow w.heap.size 23 1 v' m xs ∧ Below w.heap.size w w' := by
  have H := Lib.hid h
  have H1 := Lib.hid h1
  obtain ⟨hl, p, c, rfl, hcell⟩ := h
  cases p with
  | none =>
    have hx : xs = [] := by
      cases xs with
      | nil => rfl
      | cons u r => obtain ⟨b, o', hb, _⟩ := hcell 0 u rfl; cases hb
    subst hx
    obtain rfl : m = 0 := by simpa using hl.symm
    have hnil := fun w' => Lib.run_eql_slice_nil (P := Try.prog) w' 22 23 none 0 c 0 0 Try.underlying22
    clear H H1 h1 hcell hl
    go_enter Try.func28, Try.ntmps28
    go_wp2_with fail
    go_ret
    exact ⟨_, rfl, ⟨rfl, .inl ⟨rfl, rfl⟩⟩, Below.refl _ _⟩
  | some ad =>
    have hnil := fun w' => Lib.run_eql_slice_nil (P := Try.prog) w' 22 23 (some ad) m c 0 0 Try.underlying22
    have hs0 := (Blk.new (w := w) 23 []).own (n := 0) (size := 1) (by simp) (Nat.zero_le _) w.heap.size (Nat.le_refl _)
    have HS := Lib.hid (And.intro hs0 (And.intro (H.out.below (Below.new w (.cells #[] 23))) (Below.new w (.cells #[] 23))))
    clear hcell hl h1 hs0
    go_enter Try.func28, Try.ntmps28
    go_wp2_with (at_builtin; go_must (refine wpList_appR rfl  _ _ 22 rfl TLists w.heap.size (.slice (some ⟨w.heap.size, 0, none⟩) 0 0) 0 [] rfl HS.out.1 _ m xs rfl HS.out.2.1 H1.out (by omega) (by omega) (by simp) ?_); intro v4 w4 happ; have HP := Lib.hid happ; clear happ)
    have hf := ownsRow_le HP.out.own
    go_ret
    refine ⟨_, rfl, by have := HP.out.own; rwa [Nat.zero_add, List.nil_append] at this, HP.out.below HS.out.2.2 (by simp) ?_⟩
    intro k hk
    have : k = w.heap.size := by simpa [Value.ownBlock] using hk.symm
    omega
end Go.Proofs.Ytcifiibpiooeiaa
