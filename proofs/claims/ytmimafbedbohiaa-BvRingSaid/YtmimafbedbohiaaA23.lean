import Derived.Test.YtmimafbedbohiaaA22
namespace Go.Proofs.Ytmimafbedbohiaa
set_option linter.unusedVariables false
open Go.RowKit

/-- a list of bits of its own is returned -/
def RetL (w : World) (n : Nat) (f : Nat → Bool) (e : Ending) (w' : World) : Prop := ∃ v, e = .returned v ∧ RO w' v 1 n (bools (rl n f)) ∧ Below w.heap.size w w'
theorem RO.ofBlk {w : World} {b n : Nat} {f : Nat → Bool} (h : Blk w b 4 (bools (rl n f))) : RO w (.slice (some ⟨b, 0, none⟩) n n) 1 n (bools (rl n f)) := by
  refine ⟨by simp [bools, rl], _, _, rfl, fun j u hj => ⟨b, 0, rfl, ?_⟩⟩
  rw [Nat.zero_add]; exact h.cell hj

set_option maxRecDepth 100000 in
set_option maxHeartbeats 4000000 in
theorem rnot_any {w : World} {va : Value} {n : Nat} {f : Nat → Bool} (hA : RO w va 1 n (bools (rl n f))) (hn : n ≤ 128) : Calls Try.prog 65 #[va] w (RetL w n fun j => !(f j)) := by
  have hni : (n : Int) ≤ 128 := by omega
  have HA := Lib.hid hA
  obtain ⟨pa, ca, rfl⟩ := hA.form
  have hmk := fun w => mk_bools n (by omega) w
  clear hA hn
  go_enter Try.func65, Try.ntmps65
  go_wp2_with fail
  have k1 := Blk.new (w := w) 4 (bools (List.replicate n false))
  have hb : Below w.heap.size w (w.alloc (.cells (bools (List.replicate n false)).toArray 4)) := Below.new _ _
  have HK := Lib.hid (And.intro k1 hb)
  clear k1 hb hmk
  generalize w.alloc (.cells (bools (List.replicate n false)).toArray 4) = W at *
  go_loopw [4] (fun i wr => ∃ k : Nat, k ≤ n ∧ i = .int .i64 k ∧ Blk wr w.heap.size 4 (bools (rl n fun j => decide (j < k) && !(f j))) ∧ Below w.heap.size w wr) (fun i _ => n - (intOf i).toNat)
  case atStart =>
    refine ⟨0, Nat.zero_le _, rfl, ?_, HK.out.2⟩
    have : (rl n fun j => decide (j < 0) && !(f j)) = List.replicate n false := by rw [← rl_false]; exact rl_congr fun i _ => by simp
    rw [this]; exact HK.out.1
  case round =>
    obtain ⟨k, hk, rfl, h1, hbel⟩ := hrel
    have HR := Lib.hid (And.intro h1 hbel)
    by_cases hlt : k < n
    · have hki : (k : Int) < n := by omega
      have HS : Hid ((bools (rl n fun j => decide (j < k) && !(f j))).set k (.bool (!(f k))) = bools (rl n fun j => decide (j < k + 1) && !(f j))) := Lib.hid (by
        rw [bools_set, rl_set]
        congr 1
        exact rl_congr fun i hi => by
          by_cases e : i = k
          · subst e; simp
          · by_cases e2 : i < k
            · have : i < k + 1 := by omega
              simp [e, e2, this]
            · have : ¬ i < k + 1 := by omega
              simp [e, e2, this])
      have hro := HA.out.below hbel
      have hat := bools_at (rl n f) k (by rw [rl_length]; exact hlt)
      rw [rl_getD n f k hlt] at hat
      obtain ⟨bl, ol, rfl⟩ := hro.sl hat
      have f0 := hro.cell hat
      have d0 := h1.cell (bools_at (rl n fun j => decide (j < k) && !(f j)) k (by rw [rl_length]; exact hlt))
      have d1 := h1.frz k
      generalize f k = q at *
      clear h1 hbel hat hro
      go_wp2_with fail
      go_roundw
      case rel => exact ⟨k + 1, by omega, by go_num, by rw [← HS.out]; exact HR.out.1.set k _, HR.out.2.setCell (Nat.le_refl _) _⟩
      case measure => simp [intOf]; omega
    · obtain rfl : k = n := by omega
      have hfin : (rl k fun j => decide (j < k) && !(f j)) = rl k (fun j => !(f j)) := rl_congr fun i hi => by simp [hi]
      have HF := Lib.hid hfin
      clear h1 hbel hlt hfin
      go_wp2_with fail
      go_ret
      exact ⟨_, rfl, by rw [← HF.out]; exact RO.ofBlk HR.out.1, HR.out.2⟩

set_option maxRecDepth 100000 in
theorem rtop_any {w : World} {va : Value} {n : Nat} {f : Nat → Bool} (hA : RO w va 1 n (bools (rl n f))) (hn : n ≤ 128) (h0 : 1 ≤ n) : Calls Try.prog 70 #[va] w fun e w' => e = .returned (.bool (f (n - 1))) ∧ w = w' := by
  have hni : (n : Int) ≤ 128 := by omega
  have q0 : (0 : Int) ≤ (n : Int) - 1 := by omega
  have q1 : (n : Int) - 1 < n := by omega
  have q2 : ((n : Int) - 1).toNat = n - 1 := by omega
  have q3 : IntKind.i64.wrap ((n : Int) - 1) = (n : Int) - 1 := IntWalk.i64_in _ (by omega)
  have q4 : (1 : Int) ≤ n := by omega
  obtain ⟨pa, ca, rfl⟩ := hA.form
  have hat := bools_at (rl n f) (n - 1) (by rw [rl_length]; omega)
  rw [rl_getD n f (n - 1) (by omega)] at hat
  obtain ⟨bl, ol, rfl⟩ := hA.sl hat
  have f0 := hA.cell hat
  clear hA hat hn h0
  go_enter Try.func70, Try.ntmps70
  go_wp2_with fail
  go_ret
  exact ⟨rfl, rfl⟩
end Go.Proofs.Ytmimafbedbohiaa
