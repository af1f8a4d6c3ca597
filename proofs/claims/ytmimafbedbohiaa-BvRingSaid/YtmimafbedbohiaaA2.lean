import Derived.Test.YtmimafbedbohiaaA1
namespace Go.Proofs.Ytmimafbedbohiaa
set_option linter.unusedVariables false
open Go.RowKit

theorem pow_lt (k : Nat) (hk : k < 64) : (2 ^ k : Nat) < 18446744073709551616 := Nat.pow_lt_pow_right (n := 64) (by decide) hk
theorem u64_pow (k : Nat) (hk : k < 64) : IntKind.u64.wrap (2 ^ k) = ((2 ^ k : Nat) : Int) := by
  rw [IntKind.wrap_u64]
  have h := pow_lt k hk
  rw [show ((2 : Int) ^ k) = ((2 ^ k : Nat) : Int) by simp]
  generalize 2 ^ k = y at *
  omega
theorem u64_clr (W k : Nat) (hW : W < 2 ^ 64) (hk : k < 64) : bits .andNot .u64 (W : Int) (IntKind.u64.wrap (2 ^ k)) = ((setB W k false : Nat) : Int) := by
  rw [u64_pow k hk, ← setB_andNot W k hW hk]; exact u64_andNot_nat W _ hW (pow_lt k hk)
theorem u64_put (W k : Nat) (hW : W < 2 ^ 64) (hk : k < 64) : bits .or .u64 (W : Int) (IntKind.u64.wrap (2 ^ k)) = ((setB W k true : Nat) : Int) := by
  rw [u64_pow k hk, ← setB_or]; exact u64_or_nat W _ hW (pow_lt k hk)
theorem VO.setBit {w : World} {v : Value} {n x b : Nat} (h : VO w v n x b) (i : Nat) (is : Bool) (hi : i < n) : VO (w.setCell ⟨b, i / 64, none⟩ (.int .u64 ((setB (word x (i / 64)) (i % 64) is : Nat) : Int))) v n (setB x i is) b := by
  have hk : i / 64 < wcount n := by unfold wcount; omega
  have hy : setB (word x (i / 64)) (i % 64) is < 2 ^ 64 := setB_lt is (word_lt _ _) (Nat.mod_lt _ (by decide))
  refine (h.set hk hy).congr (setB_lt is h.lt (by have := n_le_words n; omega)) fun j _ => ?_
  rw [setW_word _ _ _ _ hy, setB_word]
  by_cases e : j = i / 64
  · subst e; rfl
  · rw [if_neg e, if_neg e]
theorem grown_set (w : World) (o : Obj) (b i : Nat) (u : Value) (hb : b < w.heap.size) : w.grownBy ((w.alloc o).setCell ⟨b, i, none⟩ u).drew (some b) := by
  refine ⟨rfl, rfl, rfl, ?_, fun k hk hne => ?_⟩
  · show w.heap.size ≤ ((w.alloc o).setCell _ _).heap.size
    simp
  · show ((w.alloc o).setCell _ _).heap[k]? = _
    rw [Below.heap_setCell _ _ _ _ (fun e => hne (by rw [e]))]
    exact heap_alloc_old _ _ hk

set_option maxRecDepth 100000 in
set_option maxHeartbeats 1000000 in
theorem set_any {w : World} {v : Value} {n x b : Nat} (h : VO w v n x b) (i : Nat) (is : Bool) (hi : i < n) :
    Calls Try.prog 61 #[v, .int .i64 i, .bool is] w fun e w' => e = .returned (.tuple #[]) ∧ VO w' v n (setB x i is) b ∧ w.grownBy w' (some b) := by
  have HV := Lib.hid (fun o => h.below (Below.new w o))
  obtain ⟨rfl, hb, hx, hn⟩ := h
  have hk : i / 64 < wcount n := by unfold wcount; omega
  have hlt := hb.lt
  have hc := (hb.alloc (.cells #[.int .i64 n, .slice (some ⟨b, 0, none⟩) (wcount n) (wcount n)] 26)).cell (wordsV_at hk)
  have hf := (hb.alloc (.cells #[.int .i64 n, .slice (some ⟨b, 0, none⟩) (wcount n) (wcount n)] 26)).frz (i / 64)
  have hp0 := (Blk.new (w := w) 26 [.int .i64 n, .slice (some ⟨b, 0, none⟩) (wcount n) (wcount n)]).cell (i := 0) rfl
  have hp1 := (Blk.new (w := w) 26 [.int .i64 n, .slice (some ⟨b, 0, none⟩) (wcount n) (wcount n)]).cell (i := 1) rfl


  have hi' : (i : Int) ≤ 128 := by omega
  have q1 : (0 : Int) ≤ (i : Int) / 64 := by omega
  have q2 : (i : Int) / 64 < (wcount n : Int) := by omega
  have q3 : ((i : Int) / 64).toNat = i / 64 := by omega
  have q4 : (0 : Int) ≤ (i : Int) % 64 := by omega
  have q5 : ((i : Int) % 64).toNat = i % 64 := by omega
  have q6 : (i : Int).tmod 64 = (i : Int) % 64 := Int.tmod_eq_emod_of_nonneg (by omega)
  have q0 : IntKind.i64.wrap ((i : Int) / 64) = (i : Int) / 64 := IntWalk.i64_in _ (by omega)


  go_enter Try.func61, Try.ntmps61
  have hu0 := Lib.hid (u64_clr (word x (i / 64)) (i % 64) (word_lt _ _) (Nat.mod_lt _ (by decide)))
  have hu1 := Lib.hid (u64_put (word x (i / 64)) (i % 64) (word_lt _ _) (Nat.mod_lt _ (by decide)))
  have HG := Lib.hid (fun o y => grown_set w o b (i / 64) y hlt)
  have HI := Lib.hid hi
  clear hb hx hi hn hk
  cases is
  all_goals
    go_wp2_with fail
    have HV2 := Lib.hid ((HV.out (.cells #[.int .i64 n, .slice (some ⟨b, 0, none⟩) (wcount n) (wcount n)] 26)).setBit i)
    have HG2 := Lib.hid (HG.out (.cells #[.int .i64 n, .slice (some ⟨b, 0, none⟩) (wcount n) (wcount n)] 26))
    generalize w.alloc (.cells #[.int .i64 n, .slice (some ⟨b, 0, none⟩) (wcount n) (wcount n)] 26) = W at *
    refine wp_region_still_tail 11 (by kernel_rfl) (by kernel_rfl) ?_
    simp only [List.take_succ_cons, List.take_zero, List.drop_succ_cons, List.drop_zero]
    change wpStill _ _ W.drew (fun a' => wpList _ _ _ _ a' W.drew) _ _
    repeat still_step
    refine wpStill_nil ?_
    go_wp2_with fail
    first | rw [hu0.out] | rw [hu1.out]
    go_end0
    exact ⟨rfl, (HV2.out _ HI.out).below ((Below.refl _ _).drew), HG2.out _⟩
end Go.Proofs.Ytmimafbedbohiaa
