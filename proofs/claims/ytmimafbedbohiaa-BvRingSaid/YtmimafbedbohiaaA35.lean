import Derived.Test.YtmimafbedbohiaaA34
namespace Go.Proofs.Ytmimafbedbohiaa
set_option linter.unusedVariables false
open Go.RowKit

theorem wordsV_one (m x : Nat) : ∀ u ∈ wordsV m x, u.oneCell' = true := by
  intro u hu
  simp only [wordsV, List.mem_map] at hu
  obtain ⟨x, _, rfl⟩ := hu; rfl
theorem words_any {w : World} {v : Value} {n x : Nat} (h : VR w v n x) : Calls Try.prog 25 #[v] w fun e w' => ∃ v', e = .returned v' ∧ w'.ownsRow w.heap.size 22 1 v' (wcount n) (wordsV (wcount n) x) ∧ Below w.heap.size w w' := by
  obtain ⟨⟨p, c, rfl, hr⟩, _, hle⟩ := h
  have HC := Lib.hid (fun o => clone_any (hr.below (Below.new w o)) (wordsV_one _ _) (by unfold wcount; omega))
  clear hr
  go_enter Try.func25, Try.ntmps25
  go_wp2_with fail
  refine (HC.out _).mono ?_; rintro e w1 ⟨v', rfl, ho, hb⟩
  have HH := Lib.hid (And.intro ho hb)
  clear ho hb
  go_wp2_with fail
  go_ret
  refine ⟨_, rfl, ⟨HH.out.1.1, ?_⟩, Below.then (Below.new _ _) HH.out.2 (Nat.le_refl _)⟩
  rcases HH.out.1.2 with h | ⟨g, cap, cur, h1, h2, h3⟩
  · exact .inl h
  · exact .inr ⟨g, cap, cur, h1, by have := h2; rw [World.size_alloc] at this; omega, h3⟩

/-- a list of bits and an error are returned -/
def RetEL (w : World) (n : Nat) (f : Nat → Bool) (err : Int) (e : Ending) (w' : World) : Prop := ∃ v, e = .returned (.tuple #[v, .int .i64 err]) ∧ RO w' v 1 n (bools (rl n f)) ∧ Below w.heap.size w w'
theorem RO.nil (w : World) (f : Nat → Bool) (c : Nat) : RO w (.slice none 0 c) 1 0 (bools (rl 0 f)) := ⟨rfl, _, _, rfl, fun j u hj => by simp [rl, bools] at hj⟩
theorem rl_append (n m : Nat) (f g : Nat → Bool) : rl n f ++ rl m g = rl (n + m) (fun i => if i < n then f i else g (i - n)) := by
  apply List.ext_getElem?
  intro j
  by_cases h : j < n
  · rw [List.getElem?_append_left (by rw [rl_length]; exact h)]
    simp only [rl, List.getElem?_map, List.getElem?_range h, List.getElem?_range (show j < n + m by omega), Option.map_some, if_pos h]
  · rw [List.getElem?_append_right (by rw [rl_length]; omega), rl_length]
    simp only [rl, List.getElem?_map]
    by_cases h2 : j < n + m
    · rw [List.getElem?_range (by omega : j - n < m), List.getElem?_range h2]; simp [h]
    · rw [List.getElem?_eq_none (by simp; omega), List.getElem?_eq_none (by simp; omega)]; rfl
theorem bools_append (a b : List Bool) : bools a ++ bools b = bools (a ++ b) := by simp [bools]

theorem rof_bad {w : World} {va : Value} {n : Nat} {cs : List Value} (hA : RO w va 1 n cs) (hb : n < 1 ∨ 128 < n) : Calls Try.prog 22 #[va] w (RetEL w 0 (fun _ => false) 2) := by
  obtain ⟨pa, ca, rfl⟩ := hA.form
  clear hA
  by_cases h1 : n < 1
  · have hi : (n : Int) < 1 := by omega
    clear hb h1
    go_enter Try.func22, Try.ntmps22
    go_wp2_with fail
    go_ret2
    exact ⟨_, rfl, RO.nil _ _ _, Below.refl _ _⟩
  · have hd : decide ((n : Int) < 1) = false := by simp; omega
    have hi : (128 : Int) < n := by omega
    clear hb h1
    go_enter Try.func22, Try.ntmps22
    go_wp2_with fail
    go_ret2
    exact ⟨_, rfl, RO.nil _ _ _, Below.refl _ _⟩

theorem own_bools0 (w : World) : (w.alloc (.cells #[] 4)).ownsRow w.heap.size 4 1 (.slice (some ⟨w.heap.size, 0, none⟩) 0 0) 0 (bools []) := (Blk.new (w := w) 4 []).own (n := 0) (size := 1) (by simp) (Nat.zero_le _) w.heap.size (Nat.le_refl _)
theorem own_bk {k : Nat} {g : Nat} (hk : (Value.slice (some ⟨g, 0, none⟩) 0 0).ownBlock = some k) : g = k := by simpa [Value.ownBlock] using hk

theorem rof_good {w : World} {va : Value} {n : Nat} {f : Nat → Bool} (hA : RO w va 1 n (bools (rl n f))) (h1 : 1 ≤ n) (h2 : n ≤ 128) : Calls Try.prog 22 #[va] w (RetEL w n f 0) := by
  have HA := Lib.hid (hA.below (Below.new w (.cells #[] 4)))
  obtain ⟨pa, ca, rfl⟩ := hA.form
  have hd : decide ((n : Int) < 1) = false := by simp; omega
  have hi : (n : Int) ≤ 128 := by omega
  have HS := Lib.hid (own_bools0 w)
  clear hA h1
  go_enter Try.func22, Try.ntmps22
  go_wp2_with (at_builtin; go_must (refine wpList_appR rfl _ _ 35 rfl Try.T35 w.heap.size (.slice (some ⟨w.heap.size, 0, none⟩) 0 0) 0 (bools []) rfl HS.out _ n _ rfl HA.out (bools_one _) (by omega) (by omega) (by simp) ?_); intro v4 w4 happ; have HP := Lib.hid happ; clear happ)
  go_ret2
  refine ⟨_, rfl, ?_, HP.out.below (Below.new _ _) (by simp) (fun k hk => by have := own_bk hk; omega)⟩
  have := RO.own HP.out.own
  rwa [Nat.zero_add, bools_append, List.nil_append] at this
end Go.Proofs.Ytmimafbedbohiaa
