import Derived.Test.YtoccghbkfnalgaaL3
import Derived.BigRegion
namespace Go.Proofs.Ytoccghbkfnalgaa
set_option linter.unusedVariables false
open Go.RowKit

/-- the first k pairs exchanged -/
def revTo (l : List Int) : Nat → List Int
  | 0 => l
  | k + 1 => ((revTo l k).set k ((revTo l k).getD (l.length - 1 - k) 0)).set (l.length - 1 - k) ((revTo l k).getD k 0)
theorem revTo_succ (l : List Int) (k : Nat) : revTo l (k + 1) = ((revTo l k).set k ((revTo l k).getD (l.length - 1 - k) 0)).set (l.length - 1 - k) ((revTo l k).getD k 0) := rfl
theorem revTo_length (l : List Int) : ∀ k, (revTo l k).length = l.length
  | 0 => rfl
  | k + 1 => by simp [revTo, revTo_length l k]
theorem getD_set_int (l : List Int) (i j : Nat) (b : Int) : (l.set i b).getD j 0 = if i = j ∧ i < l.length then b else l.getD j 0 := by
  simp only [List.getD, List.getElem?_set]
  by_cases h : i = j
  · subst h
    by_cases h2 : i < l.length
    · simp [h2]
    · simp [h2]
  · simp [h]
theorem revTo_at (l : List Int) : ∀ k, k ≤ l.length / 2 → ∀ i, i < l.length → (revTo l k).getD i 0 = if i < k ∨ l.length - 1 - i < k then l.getD (l.length - 1 - i) 0 else l.getD i 0
  | 0, _, i, hi => by simp [revTo]
  | k + 1, hk, i, hi => by
    have ih := revTo_at l k (by omega)
    rw [revTo_succ, getD_set_int, getD_set_int]
    simp only [List.length_set, revTo_length]
    by_cases h1 : l.length - 1 - k = i
    · subst h1
      rw [if_pos ⟨rfl, by omega⟩, ih k (by omega), if_neg (by omega), if_pos (by omega)]
      congr 1; omega
    · rw [if_neg (fun h => h1 h.1)]
      by_cases h2 : k = i
      · subst h2
        rw [if_pos ⟨rfl, by omega⟩, ih _ (by omega), if_neg (by omega), if_pos (by omega)]
      · rw [if_neg (fun h => h2 h.1), ih i hi]
        by_cases h3 : i < k ∨ l.length - 1 - i < k
        · rw [if_pos h3, if_pos (by omega)]
        · rw [if_neg h3, if_neg (by omega)]
theorem revTo_all (l : List Int) : revTo l (l.length / 2) = l.reverse := by
  apply List.ext_getElem
  · simp [revTo_length]
  · intro i h1 h2
    rw [revTo_length] at h1
    have h := revTo_at l _ (Nat.le_refl _) i h1
    rw [List.getD, List.getElem?_eq_getElem (by rw [revTo_length]; exact h1)] at h
    simp only [Option.getD_some] at h
    rw [h, List.getElem_reverse]
    split
    · rw [List.getD, List.getElem?_eq_getElem (by omega)]; rfl
    · rename_i hn
      have : l.length - 1 - i = i := by omega
      simp only [this]
      rw [List.getD, List.getElem?_eq_getElem h1]; rfl

theorem ints_set (l : List Int) (i : Nat) (b : Int) : (ints l).set i (.int .i64 b) = ints (l.set i b) := by simp [ints, List.map_set]

theorem reverse_nil (w : World) : Calls Try.prog 29 #[.slice none 0 0] w fun e w' => e = .returned (.tuple #[]) ∧ w = w' := by
  go_enter Try.func29, Try.ntmps29
  go_wp2
  go_loop [2, 3] (fun i j => i = .int .i64 0 ∧ j = .int .i64 (-1)) (fun _ _ => 0)
  case atStart => exact ⟨rfl, rfl⟩
  case round =>
    obtain ⟨rfl, rfl⟩ := hrel
    go_wp2
    go_end0
    exact ⟨rfl, rfl⟩

set_option maxHeartbeats 1000000 in
theorem reverse_any (w : World) (b c : Nat) (l : List Int) (rest : List Value) (hb : Blk w b 3 (ints l ++ rest)) (hl : l.length ≤ 100000) :
    Calls Try.prog 29 #[.slice (some ⟨b, 0, none⟩) l.length c] w fun e w' => e = .returned (.tuple #[]) ∧ Blk w' b 3 (ints l.reverse ++ rest) ∧ w.grownBy w' (some b) := by
  have H := Lib.hid hb
  have hl' : (l.length : Int) ≤ 100000 := by omega
  clear hb
  go_enter Try.func29, Try.ntmps29
  go_wp2
  go_loopw [2, 3] (fun i j wr => ∃ k : Nat, k ≤ l.length / 2 ∧ i = .int .i64 k ∧ j = .int .i64 ((l.length : Int) - 1 - k) ∧ Blk wr b 3 (ints (revTo l k) ++ rest) ∧ w.grownBy wr (some b)) (fun i _ _ => l.length - (intOf i).toNat)
  case atStart => exact ⟨0, Nat.zero_le _, rfl, by go_num, H.out, ⟨rfl, rfl, rfl, Nat.le_refl _, fun _ _ _ => rfl⟩⟩
  case round =>
    obtain ⟨k, hk, rfl, rfl, hblk, hgr⟩ := hrel
    have HR := Lib.hid (And.intro hblk hgr)
    by_cases hlt : k < l.length / 2
    · obtain ⟨j, hj, hj2⟩ : ∃ j : Nat, (l.length : Int) - 1 - k = j ∧ j = l.length - 1 - k := ⟨l.length - 1 - k, by omega, rfl⟩
      have hkj : k < j := by omega
      have hjl : j < l.length := by omega
      have c1 := hblk.cell (i := k) (u := .int .i64 ((revTo l k).getD k 0)) (by rw [List.getElem?_append_left (by simp [ints, revTo_length]; omega)]; exact ints_at _ k (by rw [revTo_length]; omega))
      have c2 := hblk.cell (i := j) (u := .int .i64 ((revTo l k).getD j 0)) (by rw [List.getElem?_append_left (by simp [ints, revTo_length]; omega)]; exact ints_at _ j (by rw [revTo_length]; omega))
      have f1 := hblk.frz k
      have f2 := hblk.frz j
      have hnext := revTo_succ l k
      rw [← hj2] at hnext
      have HN := Lib.hid (And.intro hnext hj2)
      rw [hj]
      have hkl : k < l.length := by omega
      have hjk : ((l.length : Int) - 1 - k) = j := hj
      have HJ := Lib.hid hj
      have hj3 : (k : Int) < j := by omega
      have hj4 : (j : Int) < l.length := by omega
      clear hblk hgr hnext hj2 hj hjk
      generalize (revTo l k).getD k 0 = X at *
      generalize (revTo l k).getD j 0 = Y at *
      go_wp2
      go_region
      all_goals go_wp2
      go_roundw
      case rel =>
        refine ⟨k + 1, by omega, by go_num, ?_, ?_, ?_⟩
        · have := HJ.out; exact congrArg (Value.int .i64) (by omega)
        · have hs := (HR.out.1.set k (.int .i64 Y)).set j (.int .i64 X)
          rw [List.set_append_left _ _ (by simp [ints, revTo_length]; omega), ints_set, List.set_append_left _ _ (by simp [ints, revTo_length]; omega), ints_set] at hs
          rw [HN.out.1]
          exact hs
        · have g := HR.out.2
          refine ⟨g.os, g.tape, g.output, by simpa using g.size, fun q hq hne => ?_⟩
          have hqb : q ≠ b := fun e => hne (by rw [e])
          show ((wr.setCell ⟨b, k, none⟩ _).setCell ⟨b, j, none⟩ _).heap[q]? = _
          rw [Below.heap_setCell _ _ _ _ hqb, Below.heap_setCell _ _ _ _ hqb]
          exact g.block q hq hne
      case measure => simp [intOf]; omega
    · obtain rfl : k = l.length / 2 := by omega
      clear hblk hgr
      have hfin : ¬ ((l.length / 2 : Nat) : Int) < (l.length : Int) - 1 - (l.length / 2 : Nat) := by omega
      go_wp2
      go_end0
      refine ⟨rfl, ?_, HR.out.2⟩
      have := HR.out.1
      rw [revTo_all] at this
      exact this
end Go.Proofs.Ytoccghbkfnalgaa
