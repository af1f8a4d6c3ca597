import Derived.Test.YtmimafbedbohiaaA36
import Derived.Test.YtmimafbedbohiaaA30
namespace Go.Proofs.Ytmimafbedbohiaa
set_option linter.unusedVariables false
open Go.RowKit

theorem rext_bad {w : World} {va : Value} {n : Nat} {cs : List Value} (hA : RO w va 1 n cs) (m : Int) (s : Bool) (hb : m < 1 ∨ 128 < m ∨ n = 0) :
    Calls Try.prog 40 #[va, .int .i64 m, .bool s] w (RetEL w 0 (fun _ => false) 2) := by
  obtain ⟨pa, ca, rfl⟩ := hA.form
  clear hA
  by_cases h1 : m < 1
  · clear hb
    go_enter Try.func40, Try.ntmps40
    go_wp2_with fail
    go_ret2
    exact ⟨_, rfl, RO.nil _ _ _, Below.refl _ _⟩
  have g1 : decide (m < 1) = false := by simp; omega
  by_cases h2 : 128 < m
  · clear hb h1
    go_enter Try.func40, Try.ntmps40
    go_wp2_with fail
    go_ret2
    exact ⟨_, rfl, RO.nil _ _ _, Below.refl _ _⟩
  · have g2 : decide (128 < m) = false := by simp; omega
    obtain rfl : n = 0 := by omega
    clear hb h1 h2
    go_enter Try.func40, Try.ntmps40
    go_wp2_with fail
    go_ret2
    exact ⟨_, rfl, RO.nil _ _ _, Below.refl _ _⟩

/-- what Ext gives -/
def extR (f : Nat → Bool) (n : Nat) (s : Bool) (j : Nat) : Bool := if j < n then f j else s && f (n - 1)
theorem rl_step (m k : Nat) (f : Nat → Bool) (t : Bool) (ht : t = f k) : (bools (rl m fun j => decide (j < k) && f j)).set k (.bool t) = bools (rl m fun j => decide (j < k + 1) && f j) := by
  rw [bools_set, rl_set]
  congr 1
  refine rl_congr fun i hi => ?_
  by_cases e : i = k
  · subst e; simp [ht]
  · by_cases e2 : i < k
    · have : i < k + 1 := by omega
      simp [e, e2, this]
    · have : ¬ i < k + 1 := by omega
      simp [e, e2, this]

set_option maxRecDepth 100000 in
set_option maxHeartbeats 4000000 in
theorem rext_good {w : World} {va : Value} {n : Nat} {f : Nat → Bool} (hA : RO w va 1 n (bools (rl n f))) (hn : n ≤ 128) (m : Nat) (s : Bool) (hm : 1 ≤ m) (hlm : m ≤ 128) (hn0 : 1 ≤ n) :
    Calls Try.prog 40 #[va, .int .i64 m, .bool s] w (RetEL w m (extR f n s) 0) := by
  have hmi : (m : Int) ≤ 128 := by omega
  have hmi1 : decide ((m : Int) < 1) = false := by simp; omega
  have hmi2 : decide ((128 : Int) < m) = false := by simp; omega
  have hn1 : ((n : Int) == 0) = false := by simp; omega
  have HTop := Lib.hid (fun w' (hb : Below w.heap.size w w') => rtop_any (hA.below hb) hn hn0)
  have HA := Lib.hid hA
  obtain ⟨pa, ca, rfl⟩ := hA.form
  have hmk := fun w => mk_bools m (by omega) w
  clear hA hn hm hlm
  go_enter Try.func40, Try.ntmps40
  go_wp2_with fail
  have k1 := Blk.new (w := w) 4 (bools (List.replicate m false))
  have hb : Below w.heap.size w (w.alloc (.cells (bools (List.replicate m false)).toArray 4)) := Below.new _ _
  have HK := Lib.hid (And.intro k1 hb)
  clear k1 hb hmk
  generalize w.alloc (.cells (bools (List.replicate m false)).toArray 4) = W at *
  go_loopw [9] (fun i wr => ∃ k : Nat, k ≤ m ∧ i = .int .i64 k ∧ Blk wr w.heap.size 4 (bools (rl m fun j => decide (j < k) && extR f n s j)) ∧ Below w.heap.size w wr) (fun i _ => m - (intOf i).toNat)
  case atStart =>
    refine ⟨0, Nat.zero_le _, rfl, ?_, HK.out.2⟩
    have : (rl m fun j => decide (j < 0) && extR f n s j) = List.replicate m false := by rw [← rl_false]; exact rl_congr fun i _ => by simp
    rw [this]; exact HK.out.1
  case round =>
    obtain ⟨k, hk, rfl, h1, hbel⟩ := hrel
    have HR := Lib.hid (And.intro h1 hbel)
    by_cases hlt : k < m
    · have hki : (k : Int) < m := by omega
      have HS := Lib.hid (fun t ht => rl_step m k (extR f n s) t ht)
      have d0 := h1.cell (bools_at (rl m fun j => decide (j < k) && extR f n s j) k (by rw [rl_length]; exact hlt))
      have d1 := h1.frz k
      have HLT := Lib.hid hlt
      by_cases hin : k < n
      · have hii : (k : Int) < n := by omega
        have hM : extR f n s k = f k := by unfold extR; rw [if_pos hin]
        have hat := bools_at (rl n f) k (by rw [rl_length]; exact hin)
        rw [rl_getD n f k hin] at hat
        obtain ⟨bl, ol, rfl⟩ := (HA.out.below hbel).sl hat
        have g0 := (HA.out.below hbel).cell hat
        rw [← hM] at g0
        generalize hfun : extR f n s = fx at *
        generalize fx k = q at *
        clear h1 hbel hat hlt hk hin hM
        go_wp2_with fail
        go_roundw
        case rel => exact ⟨k + 1, HLT.out, by go_num, by rw [← HS.out _ rfl]; exact HR.out.1.set k _, HR.out.2.setCell (Nat.le_refl _) _⟩
        case measure => simp [intOf]; omega
      · have hii : decide (k < n) = false := decide_eq_false hin
        have hM : extR f n s k = (s && f (n - 1)) := by unfold extR; rw [if_neg hin]
        have HTop2 := Lib.hid (HTop.out wr hbel)
        generalize hfun : extR f n s = fx at *
        rw [hM] at HS
        cases s
        · rw [Bool.false_and] at HS
          clear h1 hbel hlt hk hin hM
          go_wp2_with fail
          go_roundw
          case rel => exact ⟨k + 1, HLT.out, by go_num, by rw [← HS.out _ rfl]; exact HR.out.1.set k _, HR.out.2.setCell (Nat.le_refl _) _⟩
          case measure => simp [intOf]; omega
        · rw [Bool.true_and] at HS
          generalize f (n - 1) = q at *
          clear h1 hbel hlt hk hin hM
          go_wp2_with fail
          refine HTop2.out.mono ?_; rintro e w' ⟨rfl, rfl⟩
          go_wp2_with fail
          go_roundw
          case rel => exact ⟨k + 1, HLT.out, by go_num, by rw [← HS.out _ rfl]; exact HR.out.1.set k _, HR.out.2.setCell (Nat.le_refl _) _⟩
          case measure => simp [intOf]; omega
    · obtain rfl : k = m := by omega
      have hfin : (rl k fun j => decide (j < k) && extR f n s j) = rl k (extR f n s) := rl_congr fun i hi => by simp [hi]
      have HF := Lib.hid hfin
      clear h1 hbel hlt hfin
      go_wp2_with fail
      go_ret2
      exact ⟨_, rfl, by rw [← HF.out]; exact RO.ofBlk HR.out.1, HR.out.2⟩

theorem rnew_bad {w : World} {vw : Value} {n : Nat} {cs : List Value} (hA : RO w vw 1 n cs) (m : Int) (hb : m < 1 ∨ 128 < m) :
    Calls Try.prog 19 #[.int .i64 m, vw] w (RetEL w 0 (fun _ => false) 2) := by
  obtain ⟨pa, ca, rfl⟩ := hA.form
  clear hA
  by_cases h1 : m < 1
  · clear hb
    go_enter Try.func19, Try.ntmps19
    go_wp2_with fail
    go_ret2
    exact ⟨_, rfl, RO.nil _ _ _, Below.refl _ _⟩
  have g1 : decide (m < 1) = false := by simp; omega
  have h2 : 128 < m := by omega
  clear hb h1
  go_enter Try.func19, Try.ntmps19
  go_wp2_with fail
  go_ret2
  exact ⟨_, rfl, RO.nil _ _ _, Below.refl _ _⟩

theorem u64_bit2 (W k : Nat) (hW : W < 2 ^ 64) : (((W : Int) / 2 ^ k).tmod 2 == 1) = W.testBit k := by
  have e : (W : Int) / 2 ^ k = ((W / 2 ^ k : Nat) : Int) := by simp
  rw [e, Int.tmod_eq_emod_of_nonneg (Int.natCast_nonneg _), Nat.testBit_eq_decide_div_mod_eq]
  generalize W / 2 ^ k = q
  rw [Bool.eq_iff_iff]
  simp
  omega

set_option maxRecDepth 100000 in
set_option maxHeartbeats 4000000 in
theorem rnew_good {w : World} {vw : Value} {l : List Nat} (hA : RO w vw 1 l.length (natsV l)) (hx : ∀ x ∈ l, x < 2 ^ 64) (m : Nat) (hm : 1 ≤ m) (hlm : m ≤ 128) :
    Calls Try.prog 19 #[.int .i64 m, vw] w (RetEL w m (valW l).testBit 0) := by
  have hmi : (m : Int) ≤ 128 := by omega
  have hmi1 : decide ((m : Int) < 1) = false := by simp; omega
  have hmi2 : decide ((128 : Int) < m) = false := by simp; omega
  have HA := Lib.hid hA
  have HX := Lib.hid hx
  obtain ⟨pa, ca, rfl⟩ := hA.form
  have hmk := fun w => mk_bools m (by omega) w
  have HW := Lib.hid (valW_word l hx)
  generalize hX : valW l = X at *
  clear hA hm hlm hX hx
  go_enter Try.func19, Try.ntmps19
  go_wp2_with fail
  have k1 := Blk.new (w := w) 4 (bools (List.replicate m false))
  have hb : Below w.heap.size w (w.alloc (.cells (bools (List.replicate m false)).toArray 4)) := Below.new _ _
  have HK := Lib.hid (And.intro k1 hb)
  clear k1 hb hmk
  generalize w.alloc (.cells (bools (List.replicate m false)).toArray 4) = W at *
  go_loopw [7] (fun i wr => ∃ k : Nat, k ≤ m ∧ i = .int .i64 k ∧ Blk wr w.heap.size 4 (bools (rl m fun j => decide (j < k) && X.testBit j)) ∧ Below w.heap.size w wr) (fun i _ => m - (intOf i).toNat)
  case atStart =>
    refine ⟨0, Nat.zero_le _, rfl, ?_, HK.out.2⟩
    have : (rl m fun j => decide (j < 0) && X.testBit j) = List.replicate m false := by rw [← rl_false]; exact rl_congr fun i _ => by simp
    rw [this]; exact HK.out.1
  case round =>
    obtain ⟨k, hk, rfl, h1, hbel⟩ := hrel
    have HR := Lib.hid (And.intro h1 hbel)
    have q0 : IntKind.i64.wrap ((k : Int) / 64) = (k : Int) / 64 := IntWalk.i64_in _ (by omega)
    have q6 : (k : Int).tmod 64 = (k : Int) % 64 := Int.tmod_eq_emod_of_nonneg (by omega)
    have q8 : (k : Int).tdiv 64 = (k : Int) / 64 := Int.tdiv_eq_ediv_of_nonneg (by omega)
    by_cases hlt : k < m
    · have hki : (k : Int) < m := by omega
      have HS := Lib.hid (fun t ht => rl_step m k X.testBit t ht)
      have d0 := h1.cell (bools_at (rl m fun j => decide (j < k) && X.testBit j) k (by rw [rl_length]; exact hlt))
      have d1 := h1.frz k
      have HLT := Lib.hid hlt
      by_cases hin : k / 64 < l.length
      · have hii : (k : Int) / 64 < l.length := by omega
        have hword := HW.out (k / 64)
        have hatL : (natsV l)[k / 64]? = some (.int .u64 ((word X (k / 64) : Nat) : Int)) := by
          rw [hword, natsV, List.getElem?_map, List.getD, List.getElem?_eq_getElem hin]; rfl
        obtain ⟨bl, ol, rfl⟩ := (HA.out.below hbel).sl hatL
        have g0 := (HA.out.below hbel).cell hatL
        have HB := Lib.hid ((u64_bit2 (word X (k / 64)) (k % 64) (word_lt _ _)).trans (bit_word X k).symm)
        have q1 : (0 : Int) ≤ (k : Int) / 64 := by omega
        have q3 : ((k : Int) / 64).toNat = k / 64 := by omega
        have q4 : (0 : Int) ≤ (k : Int) % 64 := by omega
        have q5 : ((k : Int) % 64).toNat = k % 64 := by omega
        have q7 : min (k % 64) 64 = k % 64 := by omega
        generalize word X (k / 64) = x at *
        clear h1 hbel hatL hlt hk hin hword
        go_wp2_with fail
        go_roundw
        case rel => exact ⟨k + 1, HLT.out, by go_num, by rw [← HS.out _ HB.out]; exact HR.out.1.set k _, HR.out.2.setCell (Nat.le_refl _) _⟩
        case measure => simp [intOf]; omega
      · have hii : decide ((k : Int) / 64 < l.length) = false := by simp; omega
        clear h1 hbel hlt hk
        have hfin : (rl m fun j => decide (j < k) && X.testBit j) = rl m X.testBit := rl_congr fun i hi => by
          by_cases e : i < k
          · simp [e]
          · rw [bit_word X, HW.out, List.getD, List.getElem?_eq_none (by omega)]; simp [e]
        have HF := Lib.hid hfin
        clear hfin hin
        go_wp2_with fail
        go_ret2
        exact ⟨_, rfl, by rw [← HF.out]; exact RO.ofBlk HR.out.1, HR.out.2⟩
    · obtain rfl : k = m := by omega
      have hfin : (rl k fun j => decide (j < k) && X.testBit j) = rl k X.testBit := rl_congr fun i hi => by simp [hi]
      have HF := Lib.hid hfin
      have hii : decide ((k : Int) < k) = false := by simp
      clear h1 hbel hlt hfin
      go_wp2_with fail
      go_ret2
      exact ⟨_, rfl, by rw [← HF.out]; exact RO.ofBlk HR.out.1, HR.out.2⟩
end Go.Proofs.Ytmimafbedbohiaa
