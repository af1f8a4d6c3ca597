import Derived.Test.YtmimafbedbohiaaA3
namespace Go.Proofs.Ytmimafbedbohiaa
set_option linter.unusedVariables false
open Go.RowKit

theorem Try.info22 : (Try.prog.info? 22).map (fun i => (i.zero, i.size, i.bytes)) = some (some (.int .u64 0), 1, 8) := by kernel_rfl
theorem wordsV_zero (m : Nat) : wordsV m 0 = List.replicate m (.int .u64 0) := by
  apply List.ext_getElem?
  intro i
  by_cases h : i < m
  · rw [wordsV_at h, List.getElem?_replicate, if_pos h, word_zero]; rfl
  · rw [List.getElem?_eq_none (by rw [wordsV_length]; omega), List.getElem?_eq_none (by simp; omega)]
set_option maxRecDepth 100000 in
theorem mk_words (n : Nat) (hn : n ≤ 1000000) (w : World) : (Instr.makeSlice 24 (.int .i64 n) (.int .i64 n)).run Try.prog w = .ok (.slice (some ⟨w.heap.size, 0, none⟩) n n) (w.alloc (.cells (wordsV n 0).toArray 22)) := by
  obtain ⟨i0, hi, hz0, hz1, hz2⟩ := info_parts Try.info22
  have h := run_make (P := Try.prog) w 24 22 i0 _ Try.underlying24 hi hz0 .i64 .i64 n n (by omega) (by omega) (by rw [hz2]; omega) (by omega)
  rw [h, hz1]
  simp only [Int.toNat_natCast, Nat.mul_one, Value.cells]
  congr 3
  apply Array.ext'
  rw [toList_madeCells_one, wordsV_zero]
theorem VO.fresh {w : World} {n : Nat} (hn : n ≤ 128) : VO (w.alloc (.cells (wordsV (wcount n) 0).toArray 22)) (.agg #[.int .i64 n, .slice (some ⟨w.heap.size, 0, none⟩) (wcount n) (wcount n)]) n 0 w.heap.size :=
  ⟨rfl, Blk.new 22 _, Nat.pow_pos (by decide), hn⟩

/-- what blank gives: a new vector, all bits 0 -/
def Fresh (w : World) (n x : Nat) (e : Ending) (w' : World) : Prop := ∃ v b, e = .returned v ∧ VO w' v n x b ∧ w.heap.size ≤ b ∧ Below w.heap.size w w'

set_option maxRecDepth 100000 in
set_option maxHeartbeats 1000000 in
theorem blank_any {w : World} (n : Nat) (hn : n ≤ 128) : Calls Try.prog 45 #[.int .i64 n] w (Fresh w n 0) := by
  have HC := Lib.hid (fun w => count_any n w (by omega))
  have hmk := fun w => mk_words (wcount n) (by unfold wcount; omega) w
  have hni : (n : Int) ≤ 128 := by omega
  have hk0 := (Blk.new (w := w) 26 [.int .i64 0, .slice none 0 0]).alloc (.cells (wordsV (wcount n) 0).toArray 22)
  have hV := VO.fresh (w := w.alloc (.cells #[.int .i64 0, .slice none 0 0] 26)) hn
  have hB : Below w.heap.size w ((w.alloc (.cells #[.int .i64 0, .slice none 0 0] 26)).alloc (.cells (wordsV (wcount n) 0).toArray 22)) := (Below.new _ _).alloc (by simp) _
  rw [World.size_alloc] at hV
  have HH := Lib.hid (And.intro hk0 (And.intro hV hB))
  have HN := Lib.hid hn
  clear hk0 hV hB hn
  go_enter Try.func45, Try.ntmps45
  go_wp2_with fail
  refine (HC.out _).mono ?_; rintro e w' ⟨rfl, rfl⟩
  have r0 := HH.out.1.cell (i := 0) rfl
  have r1 := HH.out.1.cell (i := 1) rfl
  have rf0 := HH.out.1.frz 0
  have rf1 := HH.out.1.frz 1
  go_wp2_with fail
  have hk2 := (Blk.new (w := w) 26 [.int .i64 n, .slice (some ⟨w.heap.size + 1, 0, none⟩) (wcount n) (wcount n)]).alloc (.cells (wordsV (wcount n) 0).toArray 22)
  have hV2 := VO.fresh (w := w.alloc (.cells #[.int .i64 n, .slice (some ⟨w.heap.size + 1, 0, none⟩) (wcount n) (wcount n)] 26)) HN.out
  rw [World.size_alloc] at hV2
  have hB2 : Below w.heap.size w ((w.alloc (.cells #[.int .i64 n, .slice (some ⟨w.heap.size + 1, 0, none⟩) (wcount n) (wcount n)] 26)).alloc (.cells (wordsV (wcount n) 0).toArray 22)) := (Below.new _ _).alloc (by simp) _
  generalize (w.alloc (.cells #[.int .i64 n, .slice (some ⟨w.heap.size + 1, 0, none⟩) (wcount n) (wcount n)] 26)).alloc (.cells (wordsV (wcount n) 0).toArray 22) = W2 at *
  have e0 := hk2.cell (i := 0) (u := .int .i64 n) rfl
  have e1 := hk2.cell (i := 1) (u := .slice (some ⟨w.heap.size + 1, 0, none⟩) (wcount n) (wcount n)) rfl
  exact bodyPost_ret (v := .agg #[.int .i64 n, .slice (some ⟨w.heap.size + 1, 0, none⟩) (wcount n) (wcount n)]) (by simp [results, Try.results45, go_sem, e0, e1]) rfl ⟨_, _, rfl, hV2, Nat.le_succ _, hB2⟩
end Go.Proofs.Ytmimafbedbohiaa
