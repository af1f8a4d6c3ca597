import Derived.Test.YtmimafbedbohiaaA23
namespace Go.Proofs.Ytmimafbedbohiaa
set_option linter.unusedVariables false
open Go.RowKit

theorem setB_add {x k : Nat} (h : x < 2 ^ k) : setB x k true = x + 2 ^ k := by
  have := Nat.two_pow_add_eq_or_of_lt h 1
  rw [Nat.mul_one] at this
  rw [Nat.add_comm, this, Nat.or_comm, ← setB_or]
theorem word_small {x k : Nat} (h : x < 2 ^ k) : word x (k / 64) < 2 ^ (k % 64) := by
  unfold word
  refine Nat.lt_of_le_of_lt (Nat.mod_le _ _) ?_
  rw [Nat.div_lt_iff_lt_mul (Nat.pow_pos (by decide)), ← Nat.pow_add]
  rwa [show k % 64 + 64 * (k / 64) = k by omega]
theorem u64_one (k : Nat) (hk : k < 64) : IntKind.u64.wrap (1 * 2 ^ k) = ((2 ^ k : Nat) : Int) := by
  rw [Int.one_mul]; exact u64_pow k hk
theorem words_step (f : Nat → Bool) (k m : Nat) (y : Nat) (hy : y < 2 ^ 64) (he : y = setB (word (ofB f k) (k / 64)) (k % 64) (f k)) : (wordsV m (ofB f k)).set (k / 64) (.int .u64 y) = wordsV m (ofB f (k + 1)) := by
  rw [wordsV_set hy]
  refine wordsV_ext fun i _ => ?_
  rw [setW_word _ _ _ _ hy, ← setB_ofB f k, setB_word, he]
  by_cases e : i = k / 64
  · subst e; rfl
  · rw [if_neg e, if_neg e]
theorem ofB_skip {f : Nat → Bool} {k : Nat} (h : f k = false) : ofB f (k + 1) = ofB f k := by rw [ofB, h]; simp

theorem RO.ofCells {w : World} {b n t : Nat} {l : List Value} (h : Blk w b t l) (hl : l.length = n) : RO w (.slice (some ⟨b, 0, none⟩) n n) 1 n l := by
  refine ⟨by omega, _, _, rfl, fun j u hj => ⟨b, 0, rfl, ?_⟩⟩
  rw [Nat.zero_add]; exact h.cell hj

set_option maxRecDepth 100000 in
set_option maxHeartbeats 8000000 in
theorem rwords_any {w : World} {va : Value} {n : Nat} {f : Nat → Bool} (hA : RO w va 1 n (bools (rl n f))) (hn : n ≤ 140) :
    Calls Try.prog 60 #[va] w fun e w' => ∃ v, e = .returned v ∧ RO w' v 1 (wcount n) (wordsV (wcount n) (ofB f n)) ∧ Below w.heap.size w w' := by
  have hni : (n : Int) ≤ 140 := by omega
  have HA := Lib.hid hA
  obtain ⟨pa, ca, rfl⟩ := hA.form
  have hmk := fun w => mk_words (wcount n) (by unfold wcount; omega) w
  have hq0 : IntKind.i64.wrap ((n : Int) + 63) = (n : Int) + 63 := IntWalk.i64_in _ (by omega)
  have hq1 : ((n : Int) + 63) / 64 = (wcount n : Int) := by unfold wcount; omega
  have hq2 : ((n : Int) + 63).tdiv 64 = (wcount n : Int) := by rw [Int.tdiv_eq_ediv_of_nonneg (by omega)]; exact hq1
  have hq3 : IntKind.i64.wrap (wcount n : Int) = (wcount n : Int) := IntWalk.i64_in _ (by unfold wcount; omega)
  have HWC := Lib.hid (show wcount n * 64 < n + 64 ∧ n ≤ wcount n * 64 by unfold wcount; omega)
  clear hA hn
  go_enter Try.func60, Try.ntmps60
  go_wp2_with fail
  have k1 := Blk.new (w := w) 22 (wordsV (wcount n) 0)
  have hb : Below w.heap.size w (w.alloc (.cells (wordsV (wcount n) 0).toArray 22)) := Below.new _ _
  have HK := Lib.hid (And.intro k1 hb)
  clear k1 hb hmk
  generalize w.alloc (.cells (wordsV (wcount n) 0).toArray 22) = W at *
  go_loopw [4] (fun i wr => ∃ k : Nat, k ≤ n ∧ i = .int .i64 k ∧ Blk wr w.heap.size 22 (wordsV (wcount n) (ofB f k)) ∧ Below w.heap.size w wr) (fun i _ => n - (intOf i).toNat)
  case atStart => exact ⟨0, Nat.zero_le _, rfl, HK.out.1, HK.out.2⟩
  case round =>
    obtain ⟨k, hk, rfl, h1, hbel⟩ := hrel
    have HR := Lib.hid (And.intro h1 hbel)
    by_cases hlt : k < n
    · have hki : (k : Int) < n := by omega
      have hat := bools_at (rl n f) k (by rw [rl_length]; exact hlt)
      rw [rl_getD n f k hlt] at hat
      obtain ⟨bl, ol, rfl⟩ := (HA.out.below hbel).sl hat
      have f0 := (HA.out.below hbel).cell hat
      have HST := Lib.hid (words_step f k (wcount n))
      have HSK := Lib.hid (ofB_skip (f := f) (k := k))
      have hc : k / 64 < wcount n := by have := HWC.out; omega
      have d0 := h1.cell (wordsV_at hc)
      have d1 := h1.frz (k / 64)
      have hsm := word_small (ofB_lt f k)
      have HAD := Lib.hid (setB_add hsm)
      have hpl := pow_lt (k % 64) (Nat.mod_lt _ (by decide))
      have HLT := Lib.hid hlt
      generalize hq : f k = q at *
      have h64 : word (ofB f k) (k / 64) + 2 ^ (k % 64) < 2 ^ 64 := by
        rw [← setB_add hsm]; exact setB_lt true (word_lt _ _) (Nat.mod_lt _ (by decide))
      have HWR : Hid (IntKind.u64.wrap (((word (ofB f k) (k / 64) : Nat) : Int) + IntKind.u64.wrap (2 ^ (k % 64))) = ((word (ofB f k) (k / 64) + 2 ^ (k % 64) : Nat) : Int)) := Lib.hid (by
        rw [u64_pow _ (Nat.mod_lt _ (by decide)), IntKind.wrap_u64]
        generalize word (ofB f k) (k / 64) = x at *
        generalize 2 ^ (k % 64) = y at *
        omega)
      have H64 := Lib.hid h64
      have q1 : (0 : Int) ≤ (k : Int) / 64 := by omega
      have q2 : (k : Int) / 64 < (wcount n : Int) := by omega
      have q3 : ((k : Int) / 64).toNat = k / 64 := by omega
      have q4 : (0 : Int) ≤ (k : Int) % 64 := by omega
      have q5 : ((k : Int) % 64).toNat = k % 64 := by omega
      have q6 : (k : Int).tmod 64 = (k : Int) % 64 := Int.tmod_eq_emod_of_nonneg (by omega)
      have q7 : IntKind.i64.wrap ((k : Int) / 64) = (k : Int) / 64 := IntWalk.i64_in _ (by omega)
      generalize word (ofB f k) (k / 64) = x at *
      clear h1 hbel hat hlt hk hsm hpl hc h64 hq2 hq1 hq0
      cases q
      · go_wp2_with fail
        go_roundw
        case rel => exact ⟨k + 1, HLT.out, by go_num, by rw [HSK.out rfl]; exact HR.out.1, HR.out.2⟩
        case measure => simp [intOf]; omega
      · go_wp2_with fail
        rw [HWR.out]
        go_roundw
        case rel => exact ⟨k + 1, HLT.out, by go_num, by rw [← HST.out _ H64.out HAD.out.symm]; exact HR.out.1.set _ _, HR.out.2.setCell (Nat.le_refl _) _⟩
        case measure => simp [intOf]; omega
    · obtain rfl : k = n := by omega
      clear h1 hbel hlt
      go_wp2_with fail
      go_ret
      exact ⟨_, rfl, RO.ofCells HR.out.1 (wordsV_length _ _), HR.out.2⟩
end Go.Proofs.Ytmimafbedbohiaa
