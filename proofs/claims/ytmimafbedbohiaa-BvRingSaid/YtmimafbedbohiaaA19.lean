import Derived.Test.YtmimafbedbohiaaA18
namespace Go.Proofs.Ytmimafbedbohiaa
set_option linter.unusedVariables false
open Go.RowKit

theorem Try.info4 : (Try.prog.info? 4).map (fun i => (i.zero, i.size, i.bytes)) = some (some (.bool false), 1, 1) := by kernel_rfl
set_option maxRecDepth 100000 in
theorem mk_bools (n : Nat) (hn : n ≤ 1000000) (w : World) : (Instr.makeSlice 35 (.int .i64 n) (.int .i64 n)).run Try.prog w = .ok (.slice (some ⟨w.heap.size, 0, none⟩) n n) (w.alloc (.cells (bools (List.replicate n false)).toArray 4)) := by
  obtain ⟨i0, hi, hz0, hz1, hz2⟩ := info_parts Try.info4
  have h := run_make (P := Try.prog) w 35 4 i0 _ Try.underlying35 hi hz0 .i64 .i64 n n (by omega) (by omega) (by rw [hz2]; omega) (by omega)
  rw [h, hz1]
  simp only [Int.toNat_natCast, Nat.mul_one, Value.cells]
  congr 3
  apply Array.ext'
  rw [toList_madeCells_one]
  simp [bools]

def rl (n : Nat) (f : Nat → Bool) : List Bool := (List.range n).map f
theorem rl_length (n f) : (rl n f).length = n := by simp [rl]
theorem rl_congr {n : Nat} {f g : Nat → Bool} (h : ∀ i, i < n → f i = g i) : rl n f = rl n g := List.map_congr_left fun i hi => h i (List.mem_range.1 hi)
theorem rl_set (n : Nat) (f : Nat → Bool) (k : Nat) (q : Bool) : (rl n f).set k q = rl n (fun i => if i = k then q else f i) := by
  apply List.ext_getElem?
  intro j
  rw [List.getElem?_set]
  simp only [rl, List.getElem?_map, List.length_map, List.length_range]
  by_cases hj : j < n
  · rw [List.getElem?_range hj]
    by_cases e : k = j
    · subst e; simp [hj]
    · have : ¬ j = k := fun h => e h.symm
      simp [e, this]
  · rw [List.getElem?_eq_none (by simpa using hj)]
    split
    · rename_i e; subst e; simp [hj]
    · rfl
theorem rl_false (n : Nat) : rl n (fun _ => false) = List.replicate n false := by
  apply List.ext_getElem?
  intro j
  simp only [rl, List.getElem?_map, List.getElem?_replicate]
  by_cases hj : j < n
  · rw [List.getElem?_range hj, if_pos hj]; rfl
  · rw [List.getElem?_eq_none (by simpa using hj), if_neg hj]; rfl
theorem rl_getD (n : Nat) (f : Nat → Bool) (k : Nat) (h : k < n) : (rl n f).getD k false = f k := by
  rw [rl, List.getD, List.getElem?_map, List.getElem?_range h]; rfl

set_option maxRecDepth 100000 in
set_option maxHeartbeats 4000000 in
theorem bits_any {w : World} {va : Value} {n A : Nat} (hA : VR w va n A) : Calls Try.prog 59 #[va] w fun e w' => ∃ v, e = .returned v ∧ RO w' v 1 n (bools (bitsOf n A)) ∧ Below w.heap.size w w' := by
  have hn128 := hA.le
  have hni : (n : Int) ≤ 128 := by omega
  have HBit : Hid (∀ w' (k : Nat), Below w.heap.size w w' → Calls Try.prog 17 #[va, .int .i64 k] w' fun e w'' => e = .returned (.bool (A.testBit k)) ∧ Below w'.heap.size w' w'') := Lib.hid fun w' k hb => by
    have := bit_any (hA.below hb) k
    rwa [show bitI A (k : Int) = A.testBit k by unfold bitI; simp] at this
  obtain ⟨pa, ca, rfl, ra⟩ := hA.ex
  have hmk := fun w => mk_bools n (by omega) w
  have HN := Lib.hid hn128
  clear hA ra hn128
  go_enter Try.func59, Try.ntmps59
  go_wp2_with fail
  have k0 := (Blk.new (w := w) 26 [.int .i64 n, .slice pa (wcount n) ca]).alloc (.cells (bools (List.replicate n false)).toArray 4)
  have k1 := Blk.new (w := w.alloc (.cells #[.int .i64 n, .slice pa (wcount n) ca] 26)) 4 (bools (List.replicate n false))
  have hb : Below w.heap.size w ((w.alloc (.cells #[.int .i64 n, .slice pa (wcount n) ca] 26)).alloc (.cells (bools (List.replicate n false)).toArray 4)) := (Below.new _ _).alloc (by simp) _
  rw [World.size_alloc] at k1
  have HK := Lib.hid (And.intro k0 (And.intro k1 hb))
  clear k0 k1 hb hmk
  generalize (w.alloc (.cells #[.int .i64 n, .slice pa (wcount n) ca] 26)).alloc (.cells (bools (List.replicate n false)).toArray 4) = W at *
  go_loopw [10] (fun i wr => ∃ k : Nat, k ≤ n ∧ i = .int .i64 k ∧ Blk wr w.heap.size 26 [.int .i64 n, .slice pa (wcount n) ca] ∧ Blk wr (w.heap.size + 1) 4 (bools (rl n fun j => decide (j < k) && A.testBit j)) ∧ Below w.heap.size w wr) (fun i _ => n - (intOf i).toNat)
  case atStart =>
    refine ⟨0, Nat.zero_le _, rfl, HK.out.1, ?_, HK.out.2.2⟩
    have : (rl n fun j => decide (j < 0) && A.testBit j) = List.replicate n false := by rw [← rl_false]; exact rl_congr fun i _ => by simp
    rw [this]; exact HK.out.2.1
  case round =>
    obtain ⟨k, hk, rfl, h0, h1, hbel⟩ := hrel
    have HR := Lib.hid (And.intro h0 (And.intro h1 hbel))
    have c0 := h0.cell (i := 0) rfl
    have c1 := h0.cell (i := 1) rfl
    by_cases hlt : k < n
    · have hki : (k : Int) < n := by omega
      have HC := Lib.hid (HBit.out wr k hbel)
      have HS : Hid ((bools (rl n fun j => decide (j < k) && A.testBit j)).set k (.bool (A.testBit k)) = bools (rl n fun j => decide (j < k + 1) && A.testBit j)) := Lib.hid (by
        rw [bools_set, rl_set]
        congr 1
        exact rl_congr fun i hi => by
          by_cases e : i = k
          · subst e; simp
          · by_cases e2 : i < k
            · have : i < k + 1 := by omega
              simp [e, e2, this]
            · have : ¬ i < k + 1 := by omega
              simp [e, e2, this])
      have hat := bools_at (rl n fun j => decide (j < k) && A.testBit j) k (by rw [rl_length]; exact hlt)
      have HAt := Lib.hid hat
      generalize A.testBit k = q at *
      clear h0 h1 hbel hat
      go_wp2_with fail
      refine HC.out.mono ?_; rintro e w2 ⟨rfl, hb2⟩
      have h1' := HR.out.2.1.next hb2
      have d0 := h1'.cell HAt.out
      have d1 := h1'.frz k
      have HR2 := Lib.hid (And.intro (HR.out.1.next hb2) (And.intro h1' (HR.out.2.2.trans (hb2.mono HR.out.2.2.size))))
      clear hb2 h1' c0 c1
      go_wp2_with fail
      go_roundw
      case rel => exact ⟨k + 1, by omega, by go_num, HR2.out.1.other _ (by show w.heap.size ≠ w.heap.size + 1; omega), by rw [← HS.out]; exact HR2.out.2.1.set k _, HR2.out.2.2.setCell (Nat.le_succ _) _⟩
      case measure => simp [intOf]; omega
    · obtain rfl : k = n := by omega
      have hfin : (rl k fun j => decide (j < k) && A.testBit j) = bitsOf k A := rl_congr fun i hi => by simp [hi]
      have HF := Lib.hid hfin
      clear h0 h1 hbel hlt hfin
      go_wp2_with fail
      go_ret
      refine ⟨_, rfl, ?_, HR.out.2.2⟩
      have hk1 := HR.out.2.1
      rw [HF.out] at hk1
      exact ⟨by simp [bools, bitsOf], _, _, rfl, fun j u hj => ⟨_, _, rfl, by rw [Nat.zero_add]; exact hk1.cell hj⟩⟩
end Go.Proofs.Ytmimafbedbohiaa
