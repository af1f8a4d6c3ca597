import Derived.Test.YtmimafbedbohiaaR7
namespace Go.Proofs.Ytmimafbedbohiaa
set_option linter.unusedVariables false
open Go.RowKit

theorem rl_next {n k : Nat} {F : Nat → Bool} {t : Bool} (ht : t = F k) : (bools (rl n fun j => decide (j < k) && F j)).set k (.bool t) = bools (rl n fun j => decide (j < k + 1) && F j) := by
  subst ht
  rw [bools_set, rl_set]
  congr 1
  exact rl_congr fun i hi => by
    by_cases e : i = k
    · subst e; simp
    · by_cases e2 : i < k
      · have : i < k + 1 := by omega
        simp [e, e2, this]
      · have : ¬ i < k + 1 := by omega
        simp [e, e2, this]

set_option maxRecDepth 100000 in
set_option maxHeartbeats 8000000 in
theorem rbin_7 {w : World} {va vb : Value} {n A B : Nat} (hA : LN w va n A) (hB : LN w vb n B) (h1 : 1 ≤ n) (hn : n ≤ 128) : Calls Try.prog 28 #[.int .i64 7, va, vb] w (RetNE w n (A &&& B) 0) := by
  have hni : (n : Int) ≤ 128 := by omega
  have hn0 : ((n : Int) == 0) = false := by simp; omega
  have HN := Lib.hid (And.intro h1 hn)
  obtain ⟨pa, ca, rfl⟩ := hA.form
  obtain ⟨pb, cb, rfl⟩ := hB.form
  have hmk := fun w => mk_bools n (by omega) w
  have hbl : Below w.heap.size w (w.alloc (.cells (bools (List.replicate n false)).toArray 4)) := Below.new _ _
  have HA := Lib.hid (hA.below hbl)
  have HB := Lib.hid (hB.below hbl)
  have HW := Lib.hid hbl
  obtain ⟨S, hS⟩ : ∃ S, min B n = S := ⟨_, rfl⟩
  have HNum := Lib.hid (nnum (n := n) (hB.below hbl) hn hn)
  rw [hS] at HNum
  have HS := Lib.hid hS
  have hSi : (S : Int) ≤ 128 := by omega
  have hSn : IntKind.i64.wrap (-(S : Int)) = -(S : Int) := IntWalk.i64_in _ (by omega)
  have hlA := hA.lt
  have hlB := hB.lt
  have HLT := Lib.hid (show A &&& B < 2 ^ n from Nat.and_lt_two_pow _ hlB)
  have HAb := Lib.hid hA.bits
  have HBb := Lib.hid hB.bits
  have HK0 := Lib.hid (Blk.new (w := w) 4 (bools (List.replicate n false)))
  obtain ⟨F, hF⟩ : ∃ F : Nat → Bool, F = fun j => A.testBit j && B.testBit j := ⟨_, rfl⟩
  have HF : Hid (∀ j, F j = (A &&& B).testBit j) := Lib.hid fun j => by rw [hF]; exact (show _ = _ by rw [Nat.testBit_and])
  have HF2 : Hid (∀ j p q, A.testBit j = p → B.testBit j = q → F j = (p && q)) := Lib.hid fun j p q h1 h2 => by rw [hF]; simp only [h1, h2]
  clear hA hB h1 hn hbl hS hlA hlB hF
  go_enter Try.func28, Try.ntmps28
  go_wp2_with fail
  generalize w.alloc (.cells (bools (List.replicate n false)).toArray 4) = W at *
  refine HNum.out.mono ?_; rintro e w' ⟨rfl, rfl⟩
  clear hmk
  go_wp2_with fail
  go_loopw [20] (fun iv wr => ∃ k : Nat, k ≤ n ∧ iv = .int .i64 k ∧ Blk wr w.heap.size 4 (bools (rl n fun j => decide (j < k) && F j)) ∧ Below w.heap.size w wr) (fun iv _ => n - (intOf iv).toNat)
  case atStart =>
    refine ⟨0, Nat.zero_le _, rfl, ?_, HW.out⟩
    rw [show (rl n fun j => decide (j < 0) && F j) = List.replicate n false by rw [← rl_false]; exact rl_congr fun i _ => by simp]
    exact HK0.out
  case round =>
    obtain ⟨k, hk, rfl, hO, hbel⟩ := hrel
    have HO := Lib.hid (And.intro hO hbel)
    by_cases hlt : k < n
    · have hki : (k : Int) < n := by omega
      have hk0 : (0 : Int) ≤ k := by omega
      have hat : (bools (rl n A.testBit))[k]? = some (.bool (A.testBit k)) := by rw [bools_at _ _ (by rw [rl_length]; exact hlt), rl_getD _ _ _ hlt]
      have hbt : (bools (rl n B.testBit))[k]? = some (.bool (B.testBit k)) := by rw [bools_at _ _ (by rw [rl_length]; exact hlt), rl_getD _ _ _ hlt]
      obtain ⟨ba, oa, ea⟩ := HAb.out.sl hat
      subst ea
      obtain ⟨bb, ob, eb⟩ := HBb.out.sl hbt
      subst eb
      have ga := (HAb.out.below hbel).cell hat
      have gb := (HBb.out.below hbel).cell hbt
      have HNA := Lib.hid (Nat.ne_of_gt (World.block_lt_of_cell? _ _ (HAb.out.cell hat)))
      have HNB := Lib.hid (Nat.ne_of_gt (World.block_lt_of_cell? _ _ (HBb.out.cell hbt)))
      have d0 := hO.cell (bools_at (rl n fun j => decide (j < k) && F j) k (by rw [rl_length]; exact hlt))
      have d1 := hO.frz k
      have HFk := Lib.hid (HF2.out k _ _ rfl rfl)
      have HLk := Lib.hid hlt
      generalize A.testBit k = p at *
      generalize B.testBit k = q at *
      clear hO hbel hat hbt hlt hk
      cases p
      · go_wp2_with fail
        go_roundw
        case rel => exact ⟨k + 1, by have := HLk.out; omega, by go_num, by have h := HO.out.1.set k (.bool (false && q)); rwa [rl_next (by rw [HFk.out])] at h, HO.out.2.setCell (Nat.le_refl _) _⟩
        case measure => simp [intOf]; omega
      · go_wp2_with fail
        go_roundw
        case rel => exact ⟨k + 1, by have := HLk.out; omega, by go_num, by have h := HO.out.1.set k (.bool (true && q)); rwa [rl_next (by rw [HFk.out])] at h, HO.out.2.setCell (Nat.le_refl _) _⟩
        case measure => simp [intOf]; omega
    · obtain rfl : k = n := by omega
      have hfin : (rl k fun j => decide (j < k) && F j) = rl k (A &&& B).testBit := rl_congr fun i hi => by rw [HF.out]; simp [hi]
      have HFin := Lib.hid hfin
      clear hO hbel hlt hk hfin
      go_wp2_with fail
      go_ret2
      exact ⟨_, rfl, ⟨_, RO.ofBlk (by rw [← HFin.out]; exact HO.out.1), by rw [ofB_mod', Nat.mod_eq_of_lt HLT.out]⟩, HO.out.2⟩

set_option maxRecDepth 100000 in
set_option maxHeartbeats 8000000 in
theorem rbin_8 {w : World} {va vb : Value} {n A B : Nat} (hA : LN w va n A) (hB : LN w vb n B) (h1 : 1 ≤ n) (hn : n ≤ 128) : Calls Try.prog 28 #[.int .i64 8, va, vb] w (RetNE w n (A ||| B) 0) := by
  have hni : (n : Int) ≤ 128 := by omega
  have hn0 : ((n : Int) == 0) = false := by simp; omega
  have HN := Lib.hid (And.intro h1 hn)
  obtain ⟨pa, ca, rfl⟩ := hA.form
  obtain ⟨pb, cb, rfl⟩ := hB.form
  have hmk := fun w => mk_bools n (by omega) w
  have hbl : Below w.heap.size w (w.alloc (.cells (bools (List.replicate n false)).toArray 4)) := Below.new _ _
  have HA := Lib.hid (hA.below hbl)
  have HB := Lib.hid (hB.below hbl)
  have HW := Lib.hid hbl
  obtain ⟨S, hS⟩ : ∃ S, min B n = S := ⟨_, rfl⟩
  have HNum := Lib.hid (nnum (n := n) (hB.below hbl) hn hn)
  rw [hS] at HNum
  have HS := Lib.hid hS
  have hSi : (S : Int) ≤ 128 := by omega
  have hSn : IntKind.i64.wrap (-(S : Int)) = -(S : Int) := IntWalk.i64_in _ (by omega)
  have hlA := hA.lt
  have hlB := hB.lt
  have HLT := Lib.hid (show A ||| B < 2 ^ n from Nat.or_lt_two_pow hlA hlB)
  have HAb := Lib.hid hA.bits
  have HBb := Lib.hid hB.bits
  have HK0 := Lib.hid (Blk.new (w := w) 4 (bools (List.replicate n false)))
  obtain ⟨F, hF⟩ : ∃ F : Nat → Bool, F = fun j => A.testBit j || B.testBit j := ⟨_, rfl⟩
  have HF : Hid (∀ j, F j = (A ||| B).testBit j) := Lib.hid fun j => by rw [hF]; exact (show _ = _ by rw [Nat.testBit_or])
  have HF2 : Hid (∀ j p q, A.testBit j = p → B.testBit j = q → F j = (p || q)) := Lib.hid fun j p q h1 h2 => by rw [hF]; simp only [h1, h2]
  clear hA hB h1 hn hbl hS hlA hlB hF
  go_enter Try.func28, Try.ntmps28
  go_wp2_with fail
  generalize w.alloc (.cells (bools (List.replicate n false)).toArray 4) = W at *
  refine HNum.out.mono ?_; rintro e w' ⟨rfl, rfl⟩
  clear hmk
  go_wp2_with fail
  go_loopw [20] (fun iv wr => ∃ k : Nat, k ≤ n ∧ iv = .int .i64 k ∧ Blk wr w.heap.size 4 (bools (rl n fun j => decide (j < k) && F j)) ∧ Below w.heap.size w wr) (fun iv _ => n - (intOf iv).toNat)
  case atStart =>
    refine ⟨0, Nat.zero_le _, rfl, ?_, HW.out⟩
    rw [show (rl n fun j => decide (j < 0) && F j) = List.replicate n false by rw [← rl_false]; exact rl_congr fun i _ => by simp]
    exact HK0.out
  case round =>
    obtain ⟨k, hk, rfl, hO, hbel⟩ := hrel
    have HO := Lib.hid (And.intro hO hbel)
    by_cases hlt : k < n
    · have hki : (k : Int) < n := by omega
      have hk0 : (0 : Int) ≤ k := by omega
      have hat : (bools (rl n A.testBit))[k]? = some (.bool (A.testBit k)) := by rw [bools_at _ _ (by rw [rl_length]; exact hlt), rl_getD _ _ _ hlt]
      have hbt : (bools (rl n B.testBit))[k]? = some (.bool (B.testBit k)) := by rw [bools_at _ _ (by rw [rl_length]; exact hlt), rl_getD _ _ _ hlt]
      obtain ⟨ba, oa, ea⟩ := HAb.out.sl hat
      subst ea
      obtain ⟨bb, ob, eb⟩ := HBb.out.sl hbt
      subst eb
      have ga := (HAb.out.below hbel).cell hat
      have gb := (HBb.out.below hbel).cell hbt
      have HNA := Lib.hid (Nat.ne_of_gt (World.block_lt_of_cell? _ _ (HAb.out.cell hat)))
      have HNB := Lib.hid (Nat.ne_of_gt (World.block_lt_of_cell? _ _ (HBb.out.cell hbt)))
      have d0 := hO.cell (bools_at (rl n fun j => decide (j < k) && F j) k (by rw [rl_length]; exact hlt))
      have d1 := hO.frz k
      have HFk := Lib.hid (HF2.out k _ _ rfl rfl)
      have HLk := Lib.hid hlt
      generalize A.testBit k = p at *
      generalize B.testBit k = q at *
      clear hO hbel hat hbt hlt hk
      cases p
      · go_wp2_with fail
        go_roundw
        case rel => exact ⟨k + 1, by have := HLk.out; omega, by go_num, by have h := HO.out.1.set k (.bool (false || q)); rwa [rl_next (by rw [HFk.out])] at h, HO.out.2.setCell (Nat.le_refl _) _⟩
        case measure => simp [intOf]; omega
      · go_wp2_with fail
        go_roundw
        case rel => exact ⟨k + 1, by have := HLk.out; omega, by go_num, by have h := HO.out.1.set k (.bool (true || q)); rwa [rl_next (by rw [HFk.out])] at h, HO.out.2.setCell (Nat.le_refl _) _⟩
        case measure => simp [intOf]; omega
    · obtain rfl : k = n := by omega
      have hfin : (rl k fun j => decide (j < k) && F j) = rl k (A ||| B).testBit := rl_congr fun i hi => by rw [HF.out]; simp [hi]
      have HFin := Lib.hid hfin
      clear hO hbel hlt hk hfin
      go_wp2_with fail
      go_ret2
      exact ⟨_, rfl, ⟨_, RO.ofBlk (by rw [← HFin.out]; exact HO.out.1), by rw [ofB_mod', Nat.mod_eq_of_lt HLT.out]⟩, HO.out.2⟩

set_option maxRecDepth 100000 in
set_option maxHeartbeats 8000000 in
theorem rbin_9 {w : World} {va vb : Value} {n A B : Nat} (hA : LN w va n A) (hB : LN w vb n B) (h1 : 1 ≤ n) (hn : n ≤ 128) : Calls Try.prog 28 #[.int .i64 9, va, vb] w (RetNE w n (A ^^^ B) 0) := by
  have hni : (n : Int) ≤ 128 := by omega
  have hn0 : ((n : Int) == 0) = false := by simp; omega
  have HN := Lib.hid (And.intro h1 hn)
  obtain ⟨pa, ca, rfl⟩ := hA.form
  obtain ⟨pb, cb, rfl⟩ := hB.form
  have hmk := fun w => mk_bools n (by omega) w
  have hbl : Below w.heap.size w (w.alloc (.cells (bools (List.replicate n false)).toArray 4)) := Below.new _ _
  have HA := Lib.hid (hA.below hbl)
  have HB := Lib.hid (hB.below hbl)
  have HW := Lib.hid hbl
  obtain ⟨S, hS⟩ : ∃ S, min B n = S := ⟨_, rfl⟩
  have HNum := Lib.hid (nnum (n := n) (hB.below hbl) hn hn)
  rw [hS] at HNum
  have HS := Lib.hid hS
  have hSi : (S : Int) ≤ 128 := by omega
  have hSn : IntKind.i64.wrap (-(S : Int)) = -(S : Int) := IntWalk.i64_in _ (by omega)
  have hlA := hA.lt
  have hlB := hB.lt
  have HLT := Lib.hid (show A ^^^ B < 2 ^ n from Nat.xor_lt_two_pow hlA hlB)
  have HAb := Lib.hid hA.bits
  have HBb := Lib.hid hB.bits
  have HK0 := Lib.hid (Blk.new (w := w) 4 (bools (List.replicate n false)))
  obtain ⟨F, hF⟩ : ∃ F : Nat → Bool, F = fun j => A.testBit j != B.testBit j := ⟨_, rfl⟩
  have HF : Hid (∀ j, F j = (A ^^^ B).testBit j) := Lib.hid fun j => by rw [hF]; exact (show _ = _ by rw [Nat.testBit_xor])
  have HF2 : Hid (∀ j p q, A.testBit j = p → B.testBit j = q → F j = (p != q)) := Lib.hid fun j p q h1 h2 => by rw [hF]; simp only [h1, h2]
  clear hA hB h1 hn hbl hS hlA hlB hF
  go_enter Try.func28, Try.ntmps28
  go_wp2_with fail
  generalize w.alloc (.cells (bools (List.replicate n false)).toArray 4) = W at *
  refine HNum.out.mono ?_; rintro e w' ⟨rfl, rfl⟩
  clear hmk
  go_wp2_with fail
  go_loopw [20] (fun iv wr => ∃ k : Nat, k ≤ n ∧ iv = .int .i64 k ∧ Blk wr w.heap.size 4 (bools (rl n fun j => decide (j < k) && F j)) ∧ Below w.heap.size w wr) (fun iv _ => n - (intOf iv).toNat)
  case atStart =>
    refine ⟨0, Nat.zero_le _, rfl, ?_, HW.out⟩
    rw [show (rl n fun j => decide (j < 0) && F j) = List.replicate n false by rw [← rl_false]; exact rl_congr fun i _ => by simp]
    exact HK0.out
  case round =>
    obtain ⟨k, hk, rfl, hO, hbel⟩ := hrel
    have HO := Lib.hid (And.intro hO hbel)
    by_cases hlt : k < n
    · have hki : (k : Int) < n := by omega
      have hk0 : (0 : Int) ≤ k := by omega
      have hat : (bools (rl n A.testBit))[k]? = some (.bool (A.testBit k)) := by rw [bools_at _ _ (by rw [rl_length]; exact hlt), rl_getD _ _ _ hlt]
      have hbt : (bools (rl n B.testBit))[k]? = some (.bool (B.testBit k)) := by rw [bools_at _ _ (by rw [rl_length]; exact hlt), rl_getD _ _ _ hlt]
      obtain ⟨ba, oa, ea⟩ := HAb.out.sl hat
      subst ea
      obtain ⟨bb, ob, eb⟩ := HBb.out.sl hbt
      subst eb
      have ga := (HAb.out.below hbel).cell hat
      have gb := (HBb.out.below hbel).cell hbt
      have HNA := Lib.hid (Nat.ne_of_gt (World.block_lt_of_cell? _ _ (HAb.out.cell hat)))
      have HNB := Lib.hid (Nat.ne_of_gt (World.block_lt_of_cell? _ _ (HBb.out.cell hbt)))
      have d0 := hO.cell (bools_at (rl n fun j => decide (j < k) && F j) k (by rw [rl_length]; exact hlt))
      have d1 := hO.frz k
      have HFk := Lib.hid (HF2.out k _ _ rfl rfl)
      have HLk := Lib.hid hlt
      generalize A.testBit k = p at *
      generalize B.testBit k = q at *
      clear hO hbel hat hbt hlt hk
      go_upto_region 57 with fail
      have ga : wr.drew.cell? _ = some _ := ga
      have gb : wr.drew.cell? _ = some _ := gb
      have d0 : wr.drew.cell? _ = some _ := d0
      have d1 : wr.drew.frozen? _ = false := d1
      have HOd := Lib.hid (And.intro HO.out.1.drew HO.out.2.drew)
      refine wp_region_held_drew (S := (fun w' => w'.cell? ⟨ba, oa + k, none⟩ = some (.bool p) ∧ w'.cell? ⟨bb, ob + k, none⟩ = some (.bool q))) (by kernel_rfl) ⟨ga, gb⟩ (fun hHeld => ?_)
      generalize wr.drew = D at *
      refine held_take (i := 0) (v := ?_) rfl (by kernel_rfl) (by kernel_rfl) (by kernel_rfl) (fun _ _ _ h => h) (Or.inl ⟨by rfl, ?_⟩) (by assumption) ?_
      rotate_left
      · intro w hSw; (try dsimp only at hSw); go_simp; (try with_reducible rfl)
      (try simp only [Act.put, List.setIfInBounds_toArray, List.set_cons_zero, List.set_cons_succ])
      refine held_take (i := 1) (v := ?_) rfl (by kernel_rfl) (by kernel_rfl) (by kernel_rfl) (fun _ _ _ h => h) (Or.inl ⟨by rfl, ?_⟩) (by assumption) ?_
      rotate_left
      · intro w hSw; (try dsimp only at hSw); go_simp; (try with_reducible rfl)
      (try simp only [Act.put, List.setIfInBounds_toArray, List.set_cons_zero, List.set_cons_succ])
      refine held_take (i := 2) (v := ?_) rfl (by kernel_rfl) (by kernel_rfl) (by kernel_rfl) (fun _ _ _ h => h) (Or.inl ⟨by rfl, ?_⟩) (by assumption) ?_
      rotate_left
      · intro w hSw; (try dsimp only at hSw); go_simp; (try with_reducible rfl)
      (try simp only [Act.put, List.setIfInBounds_toArray, List.set_cons_zero, List.set_cons_succ])
      refine held_take (i := 3) (v := ?_) rfl (by kernel_rfl) (by kernel_rfl) (by kernel_rfl) (fun _ _ _ h => h) (Or.inl ⟨by rfl, ?_⟩) (by assumption) ?_
      rotate_left
      · intro w hSw; (try dsimp only at hSw); go_simp; (try with_reducible rfl)
      (try simp only [Act.put, List.setIfInBounds_toArray, List.set_cons_zero, List.set_cons_succ])
      refine held_take (i := 4) (v := ?_) rfl (by kernel_rfl) (by kernel_rfl) (by kernel_rfl) (fun _ _ _ h => h) (Or.inl ⟨by rfl, ?_⟩) (by assumption) ?_
      rotate_left
      · intro w hSw; (try dsimp only at hSw); go_simp; (try with_reducible rfl)
      (try simp only [Act.put, List.setIfInBounds_toArray, List.set_cons_zero, List.set_cons_succ])
      refine held_take (i := 5) (v := ?_) rfl (by kernel_rfl) (by kernel_rfl) (by kernel_rfl) (fun _ _ _ h => h) (Or.inl ⟨by rfl, ?_⟩) (by assumption) ?_
      rotate_left
      · intro w hSw; (try dsimp only at hSw); go_simp; (try with_reducible rfl)
      (try simp only [Act.put, List.setIfInBounds_toArray, List.set_cons_zero, List.set_cons_succ])
      refine held_take (i := 6) (v := ?_) rfl (by kernel_rfl) (by kernel_rfl) (by kernel_rfl) (fun _ _ _ h => h) (Or.inl ⟨by rfl, ?_⟩) (by assumption) ?_
      rotate_left
      · intro w hSw; (try dsimp only at hSw); go_simp; (try with_reducible rfl)
      (try simp only [Act.put, List.setIfInBounds_toArray, List.set_cons_zero, List.set_cons_succ])
      refine held_take (i := 7) (v := ?_) rfl (by kernel_rfl) (by kernel_rfl) (by kernel_rfl) (fun _ _ _ h => h) (Or.inl ⟨by rfl, ?_⟩) (by assumption) ?_
      rotate_left
      · intro w hSw; (try dsimp only at hSw); go_simp; (try with_reducible rfl)
      (try simp only [Act.put, List.setIfInBounds_toArray, List.set_cons_zero, List.set_cons_succ])
      refine held_take (i := 8) (v := ?_) rfl (by kernel_rfl) (by kernel_rfl) (by kernel_rfl) (fun _ _ _ h => h) (Or.inl ⟨by rfl, ?_⟩) (by assumption) ?_
      rotate_left
      · intro w hSw; (try dsimp only at hSw); go_simp; (try with_reducible rfl)
      (try simp only [Act.put, List.setIfInBounds_toArray, List.set_cons_zero, List.set_cons_succ])
      refine held_take (i := 9) (v := ?_) rfl (by kernel_rfl) (by kernel_rfl) (by kernel_rfl) (fun _ _ _ h => h) (Or.inl ⟨by rfl, ?_⟩) (by assumption) ?_
      rotate_left
      · intro w hSw; (try dsimp only at hSw); go_simp; (try with_reducible rfl)
      (try simp only [Act.put, List.setIfInBounds_toArray, List.set_cons_zero, List.set_cons_succ])
      refine held_take (i := 10) (v := ?_) rfl (by kernel_rfl) (by kernel_rfl) (by kernel_rfl) (fun _ _ _ h => h) (Or.inl ⟨by rfl, ?_⟩) (by assumption) ?_
      rotate_left
      · intro w hSw; (try dsimp only at hSw); go_simp; (try with_reducible rfl)
      (try simp only [Act.put, List.setIfInBounds_toArray, List.set_cons_zero, List.set_cons_succ])
      refine held_take (i := 11) (v := ?_) rfl (by kernel_rfl) (by kernel_rfl) (by kernel_rfl) (fun _ _ _ h => h) (Or.inl ⟨by rfl, ?_⟩) (by assumption) ?_
      rotate_left
      · intro w hSw; (try dsimp only at hSw); go_simp; (try with_reducible rfl)
      (try simp only [Act.put, List.setIfInBounds_toArray, List.set_cons_zero, List.set_cons_succ])
      refine wpAnyH_ready (rs := [12]) (by kernel_rfl) (by simp) ?_
      refine held_cons rfl (fun K hK => ?_) AllReadyH.nil
      go_simp
      refine hK.out _ _ ⟨by rw [World.cell?_setCell_far _ _ _ _ HNA.out]; exact ga, by rw [World.cell?_setCell_far _ _ _ _ HNB.out]; exact gb⟩ (fun hHeld2 => ?_)
      clear hK K hHeld hHeld2
      (try simp only [Act.put, List.setIfInBounds_toArray, List.set_cons_zero, List.set_cons_succ])
      refine wpAnyH_done (by kernel_rfl) ?_ _
      go_wp2_with fail
      go_roundw
      case rel => exact ⟨k + 1, by have := HLk.out; omega, by go_num, by have h := HOd.out.1.set k (.bool (p != q)); rwa [rl_next (by rw [HFk.out])] at h, HOd.out.2.setCell (Nat.le_refl _) _⟩
      case measure => simp [intOf]; omega
    · obtain rfl : k = n := by omega
      have hfin : (rl k fun j => decide (j < k) && F j) = rl k (A ^^^ B).testBit := rl_congr fun i hi => by rw [HF.out]; simp [hi]
      have HFin := Lib.hid hfin
      clear hO hbel hlt hk hfin
      go_wp2_with fail
      go_ret2
      exact ⟨_, rfl, ⟨_, RO.ofBlk (by rw [← HFin.out]; exact HO.out.1), by rw [ofB_mod', Nat.mod_eq_of_lt HLT.out]⟩, HO.out.2⟩

set_option maxRecDepth 100000 in
set_option maxHeartbeats 4000000 in
theorem rbin_inval {w : World} {va vb : Value} {n m A B : Nat} (hA : LN w va n A) (hB : LN w vb m B) (k : Int) (hk : k < 0 ∨ 18 < k) : Calls Try.prog 28 #[.int .i64 k, va, vb] w (RetNE w 0 0 1) := by
  obtain ⟨pa, ca, rfl⟩ := hA.form
  obtain ⟨pb, cb, rfl⟩ := hB.form
  have HZ : Hid (LN w (.slice none 0 0) 0 0) := Lib.hid ⟨fun _ => false, ⟨rfl, _, _, rfl, fun j u hj => by simp [rl, bools] at hj⟩, rfl⟩
  clear hA hB
  rcases hk with hk | hk
  · go_enter Try.func28, Try.ntmps28
    go_wp2_with fail
    go_ret2
    exact ⟨_, rfl, HZ.out, Below.refl _ _⟩
  · have h0 : (0 : Int) ≤ k := by omega
    go_enter Try.func28, Try.ntmps28
    go_wp2_with fail
    go_ret2
    exact ⟨_, rfl, HZ.out, Below.refl _ _⟩
set_option maxRecDepth 100000 in
set_option maxHeartbeats 4000000 in
theorem rbin_width {w : World} {va vb : Value} {n m A B : Nat} (hA : LN w va n A) (hB : LN w vb m B) (k : Int) (hk : 0 ≤ k ∧ k ≤ 18) (hn : n ≠ m ∨ n = 0) : Calls Try.prog 28 #[.int .i64 k, va, vb] w (RetNE w 0 0 2) := by
  obtain ⟨pa, ca, rfl⟩ := hA.form
  obtain ⟨pb, cb, rfl⟩ := hB.form
  have HZ : Hid (LN w (.slice none 0 0) 0 0) := Lib.hid ⟨fun _ => false, ⟨rfl, _, _, rfl, fun j u hj => by simp [rl, bools] at hj⟩, rfl⟩
  obtain ⟨h0, h5⟩ := hk
  clear hA hB
  by_cases hnm : n = m
  · subst hnm
    obtain rfl : n = 0 := by omega
    clear hn
    go_enter Try.func28, Try.ntmps28
    go_wp2_with fail
    go_ret2
    exact ⟨_, rfl, HZ.out, Below.refl _ _⟩
  · have hb : ((n : Int) == (m : Int)) = false := by simp; omega
    have hb2 : ((n : Int) != (m : Int)) = true := by simp [bne, hb]
    clear hn hnm
    go_enter Try.func28, Try.ntmps28
    go_wp2_with fail
    go_ret2
    exact ⟨_, rfl, HZ.out, Below.refl _ _⟩
end Go.Proofs.Ytmimafbedbohiaa
