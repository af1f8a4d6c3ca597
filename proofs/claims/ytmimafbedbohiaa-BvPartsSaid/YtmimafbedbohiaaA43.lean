import Derived.Test.YtmimafbedbohiaaB8
import Derived.Test.YtmimafbedbohiaaB3
namespace Go.Proofs.Ytmimafbedbohiaa
set_option linter.unusedVariables false
open Go.RowKit

theorem Tr.sub {w W : World} {ls ls'} (h : Tr w ls W) (hs : ∀ p ∈ ls', p ∈ ls) (hnd : (ls'.map (·.1)).Nodup) : Tr w ls' W := ⟨h.bel, fun p hp => h.blk p (hs p hp), fun p hp => h.ge p (hs p hp), hnd⟩

set_option maxRecDepth 100000 in
set_option maxHeartbeats 8000000 in
theorem split_pos {w : World} {va vb : Value} {n A B : Nat} (hA : VR w va n A) (hB : VR w vb n B) (hn : 0 < n) (h0 : B ≠ 0) :
    Calls Try.prog 83 #[va, vb] w (RetP w n (A / B) (A % B)) := by
  have HA := Lib.hid hA
  have HB := Lib.hid hB
  have HN := Lib.hid hn
  have H0 := Lib.hid h0
  have hn128 := hA.le
  have hni : (n : Int) ≤ 128 := by omega
  obtain ⟨pa, ca, rfl, ra⟩ := hA.ex
  have HAny : Hid (∀ w', Below w.heap.size w w' → Calls Try.prog 74 #[vb] w' fun e w'' => e = .returned (.bool true) ∧ Below w'.heap.size w' w'') := Lib.hid fun w' hb => by
    have := any_any (hB.below hb); rwa [show nz B = true by simp [nz, h0]] at this
  obtain ⟨pb, cb, rfl, rb⟩ := hB.ex
  have HBl := Lib.hid (fun w => blank_any (w := w) n hn128)
  clear hA hB ra rb hn128 hn h0
  go_enter Try.func83, Try.ntmps83
  go_wp2_with fail
  have hT := ((((Tr.nil w).lay 26 [.int .i64 n, .slice pa (wcount n) ca]).lay 26 [.int .i64 n, .slice pb (wcount n) cb]).lay 26 [.int .i64 0, .slice none 0 0]).lay 26 [.int .i64 0, .slice none 0 0]
  simp only [World.size_alloc] at hT
  generalize (((w.alloc (.cells [Value.int .i64 n, .slice pa (wcount n) ca].toArray 26)).alloc (.cells [Value.int .i64 n, .slice pb (wcount n) cb].toArray 26)).alloc (.cells [Value.int .i64 0, .slice none 0 0].toArray 26)).alloc (.cells [Value.int .i64 0, .slice none 0 0].toArray 26) = W at *
  have HT := Lib.hid hT
  clear hT
  refine (HAny.out _ HT.out.bel).mono ?_; rintro e w1 ⟨rfl, hb1⟩
  have HT1 := Lib.hid (HT.out.below hb1)
  clear hb1
  go_upto_region 3 with fail
  go_cut [6, 7] from 10 (fun v6 v7 wx => ∃ L6 L7 bq br, v6 = .pointer (some ⟨L6, 0, none⟩) ∧ v7 = .pointer (some ⟨L7, 0, none⟩) ∧ Tr w [(L6, 26, [.int .i64 n, .slice (some ⟨bq, 0, none⟩) (wcount n) (wcount n)]), (L7, 26, [.int .i64 n, .slice (some ⟨br, 0, none⟩) (wcount n) (wcount n)]), (bq, 22, wordsV (wcount n) 0), (br, 22, wordsV (wcount n) 0), (w.heap.size + 1 + 1 + 1, 26, [.int .i64 0, .slice none 0 0]), (w.heap.size + 1 + 1, 26, [.int .i64 0, .slice none 0 0]), (w.heap.size + 1, 26, [.int .i64 n, .slice pb (wcount n) cb]), (w.heap.size, 26, [.int .i64 n, .slice pa (wcount n) ca])] wx)
  case first =>
    have HT0 := Lib.hid HT1.out.drew
    refine wp_region_held_drew (S := fun w' => w'.cell? ⟨w.heap.size, 0, none⟩ = some (.int .i64 n) ∧ w'.cell? ⟨w.heap.size, 1, none⟩ = some (.slice pa (wcount n) ca)) (by kernel_rfl) (HT0.out.pr 3 rfl) (fun hHeld => ?_)
    generalize w1.drew = D at *
    refine held_take (i := 0) (v := ?_) rfl (by kernel_rfl) (by kernel_rfl) (by kernel_rfl) (fun _ _ _ h => h) (Or.inl ⟨by rfl, ?_⟩) (by assumption) ?_
    rotate_left
    · intro w hSw; (try dsimp only at hSw); go_simp; (try with_reducible rfl)
    (try simp only [Act.put, List.setIfInBounds_toArray, List.set_cons_zero, List.set_cons_succ])
    refine held_take (i := 1) (v := ?_) rfl (by kernel_rfl) (by kernel_rfl) (by kernel_rfl) (fun _ _ _ h => h) (Or.inl ⟨by rfl, ?_⟩) (by assumption) ?_
    rotate_left
    · intro w hSw; (try dsimp only at hSw); go_simp; (try with_reducible rfl)
    (try simp only [Act.put, List.setIfInBounds_toArray, List.set_cons_zero, List.set_cons_succ])
    refine held_take (i := 3) (v := ?_) rfl (by kernel_rfl) (by kernel_rfl) (by kernel_rfl) (fun _ _ _ h => h) (Or.inl ⟨by rfl, ?_⟩) (by assumption) ?_
    rotate_left
    · intro w hSw; (try dsimp only at hSw); go_simp; (try with_reducible rfl)
    (try simp only [Act.put, List.setIfInBounds_toArray, List.set_cons_zero, List.set_cons_succ])
    refine held_take (i := 4) (v := ?_) rfl (by kernel_rfl) (by kernel_rfl) (by kernel_rfl) (fun _ _ _ h => h) (Or.inl ⟨by rfl, ?_⟩) (by assumption) ?_
    rotate_left
    · intro w hSw; (try dsimp only at hSw); go_simp; (try with_reducible rfl)
    (try simp only [Act.put, List.setIfInBounds_toArray, List.set_cons_zero, List.set_cons_succ])
    refine wpAnyH_ready (rs := [2, 6, 7]) (by kernel_rfl) (by simp) ?_
    refine held_cons rfl (fun K hK => ?_) ?_
    · go_simp
      refine (HBl.out _).mono ?_; rintro e wt1 ⟨v1, b1, rfl, hv1, hge1, hb1⟩
      obtain rfl := hv1.e
      have HT1 := Lib.hid (HT0.out.cons hb1 hv1.blk hge1)
      clear hv1 hge1 hb1
      (try go_simp)
      refine hK.out _ _ ?_ (fun hHeld2 => ?_)
      · exact HT1.out.pr 4 rfl
      clear hK K hHeld
      have hHeld := hHeld2
      clear hHeld2
      (try simp only [Act.put, List.setIfInBounds_toArray, List.set_cons_zero, List.set_cons_succ])
      refine wpAnyH_ready (rs := [5, 6, 7]) (by kernel_rfl) (by simp) ?_
      refine held_cons rfl (fun K hK => ?_) ?_
      · go_simp
        refine (HBl.out _).mono ?_; rintro e wt2 ⟨v2, b2, rfl, hv2, hge2, hb2⟩
        obtain rfl := hv2.e
        have HT2 := Lib.hid (HT1.out.cons hb2 hv2.blk hge2)
        clear hv2 hge2 hb2
        (try go_simp)
        refine hK.out _ _ ?_ (fun hHeld2 => ?_)
        · exact HT2.out.pr 5 rfl
        clear hK K hHeld
        have hHeld := hHeld2
        clear hHeld2
        (try simp only [Act.put, List.setIfInBounds_toArray, List.set_cons_zero, List.set_cons_succ])
        refine wpAnyH_ready (rs := [6, 7]) (by kernel_rfl) (by simp) ?_
        refine held_cons rfl (fun K hK => ?_) ?_
        · go_simp
          refine hK.out _ _ ?_ (fun hHeld2 => ?_)
          · exact (HT2.out.lay 26 [Value.int .i64 0, .slice none 0 0]).pr 6 rfl
          clear hK K hHeld
          have hHeld := hHeld2
          clear hHeld2
          (try simp only [Act.put, List.setIfInBounds_toArray, List.set_cons_zero, List.set_cons_succ])
          have HT3 := Lib.hid (HT2.out.lay 26 [Value.int .i64 0, .slice none 0 0])
          generalize wt2.alloc (.cells (List.toArray [Value.int .i64 0, .slice none 0 0]) 26) = wt3 at *
          generalize wt2.heap.size = L3 at *
          refine wpAnyH_ready (rs := [7]) (by kernel_rfl) (by simp) ?_
          refine held_cons rfl (fun K hK => ?_) AllReadyH.nil
          go_simp
          refine hK.out _ _ ?_ (fun hHeld2 => ?_)
          · exact (HT3.out.lay 26 [Value.int .i64 0, .slice none 0 0]).pr 7 rfl
          clear hK K hHeld
          have hHeld := hHeld2
          clear hHeld2
          (try simp only [Act.put, List.setIfInBounds_toArray, List.set_cons_zero, List.set_cons_succ])
          have HT4 := Lib.hid (HT3.out.lay 26 [Value.int .i64 0, .slice none 0 0])
          generalize wt3.alloc (.cells (List.toArray [Value.int .i64 0, .slice none 0 0]) 26) = wt4 at *
          generalize wt3.heap.size = L4 at *
          refine wpAnyH_ready (rs := [8]) (by kernel_rfl) (by simp) ?_
          refine held_cons rfl (fun K hK => ?_) AllReadyH.nil
          have r0 := (HT4.out.pr 1 rfl).1
          have r1 := (HT4.out.pr 1 rfl).2
          have f0 := (HT4.out.at 1 rfl).frz 0
          have f1 := (HT4.out.at 1 rfl).frz 1
          go_simp
          refine hK.out _ _ ?_ (fun hHeld2 => ?_)
          · exact (HT4.out.two 1 (x := .int .i64 n) (y := .slice (some ⟨b1, 0, none⟩) (wcount n) (wcount n)) rfl).pr 7 rfl
          clear hK K hHeld
          have hHeld := hHeld2
          clear hHeld2
          (try simp only [Act.put, List.setIfInBounds_toArray, List.set_cons_zero, List.set_cons_succ])
          have HT5 := Lib.hid (HT4.out.two 1 (x := .int .i64 n) (y := .slice (some ⟨b1, 0, none⟩) (wcount n) (wcount n)) rfl)
          clear r0 r1 f0 f1
          generalize (wt4.setCell ⟨L3, 0, none⟩ (.int .i64 n)).setCell ⟨L3, 1, none⟩ (.slice (some ⟨b1, 0, none⟩) (wcount n) (wcount n)) = wt5 at *
          refine wpAnyH_ready (rs := [9]) (by kernel_rfl) (by simp) ?_
          refine held_cons rfl (fun K hK => ?_) AllReadyH.nil
          have r0 := (HT5.out.pr 0 rfl).1
          have r1 := (HT5.out.pr 0 rfl).2
          have f0 := (HT5.out.at 0 rfl).frz 0
          have f1 := (HT5.out.at 0 rfl).frz 1
          go_simp
          refine hK.out _ _ ?_ (fun hHeld2 => ?_)
          · exact (HT5.out.two 0 (x := .int .i64 n) (y := .slice (some ⟨b2, 0, none⟩) (wcount n) (wcount n)) rfl).pr 7 rfl
          clear hK K hHeld
          have hHeld := hHeld2
          clear hHeld2
          (try simp only [Act.put, List.setIfInBounds_toArray, List.set_cons_zero, List.set_cons_succ])
          have HT6 := Lib.hid (HT5.out.two 0 (x := .int .i64 n) (y := .slice (some ⟨b2, 0, none⟩) (wcount n) (wcount n)) rfl)
          clear r0 r1 f0 f1
          generalize (wt5.setCell ⟨L4, 0, none⟩ (.int .i64 n)).setCell ⟨L4, 1, none⟩ (.slice (some ⟨b2, 0, none⟩) (wcount n) (wcount n)) = wt6 at *
          refine wpAnyH_done (by kernel_rfl) ?_ _
          go_wp2_with fail
          go_meet
          exact ⟨L3, L4, b1, b2, rfl, rfl, HT6.out.sub (by simp) (by have := HT6.out.nd; simp only [List.set_cons_zero, List.set_cons_succ, List.map_cons, List.map_nil, List.nodup_cons, List.mem_cons, List.not_mem_nil, or_false, not_or, not_false_eq_true, List.nodup_nil, and_true] at this ⊢; omega)⟩
        refine held_cons rfl (fun K hK => ?_) ?_
        · go_simp
          refine hK.out _ _ ?_ (fun hHeld2 => ?_)
          · exact (HT2.out.lay 26 [Value.int .i64 0, .slice none 0 0]).pr 6 rfl
          clear hK K hHeld
          have hHeld := hHeld2
          clear hHeld2
          (try simp only [Act.put, List.setIfInBounds_toArray, List.set_cons_zero, List.set_cons_succ])
          have HT7 := Lib.hid (HT2.out.lay 26 [Value.int .i64 0, .slice none 0 0])
          generalize wt2.alloc (.cells (List.toArray [Value.int .i64 0, .slice none 0 0]) 26) = wt7 at *
          generalize wt2.heap.size = L7 at *
          refine wpAnyH_ready (rs := [6]) (by kernel_rfl) (by simp) ?_
          refine held_cons rfl (fun K hK => ?_) AllReadyH.nil
          go_simp
          refine hK.out _ _ ?_ (fun hHeld2 => ?_)
          · exact (HT7.out.lay 26 [Value.int .i64 0, .slice none 0 0]).pr 7 rfl
          clear hK K hHeld
          have hHeld := hHeld2
          clear hHeld2
          (try simp only [Act.put, List.setIfInBounds_toArray, List.set_cons_zero, List.set_cons_succ])
          have HT8 := Lib.hid (HT7.out.lay 26 [Value.int .i64 0, .slice none 0 0])
          generalize wt7.alloc (.cells (List.toArray [Value.int .i64 0, .slice none 0 0]) 26) = wt8 at *
          generalize wt7.heap.size = L8 at *
          refine wpAnyH_ready (rs := [8]) (by kernel_rfl) (by simp) ?_
          refine held_cons rfl (fun K hK => ?_) AllReadyH.nil
          have r0 := (HT8.out.pr 0 rfl).1
          have r1 := (HT8.out.pr 0 rfl).2
          have f0 := (HT8.out.at 0 rfl).frz 0
          have f1 := (HT8.out.at 0 rfl).frz 1
          go_simp
          refine hK.out _ _ ?_ (fun hHeld2 => ?_)
          · exact (HT8.out.two 0 (x := .int .i64 n) (y := .slice (some ⟨b1, 0, none⟩) (wcount n) (wcount n)) rfl).pr 7 rfl
          clear hK K hHeld
          have hHeld := hHeld2
          clear hHeld2
          (try simp only [Act.put, List.setIfInBounds_toArray, List.set_cons_zero, List.set_cons_succ])
          have HT9 := Lib.hid (HT8.out.two 0 (x := .int .i64 n) (y := .slice (some ⟨b1, 0, none⟩) (wcount n) (wcount n)) rfl)
          clear r0 r1 f0 f1
          generalize (wt8.setCell ⟨L8, 0, none⟩ (.int .i64 n)).setCell ⟨L8, 1, none⟩ (.slice (some ⟨b1, 0, none⟩) (wcount n) (wcount n)) = wt9 at *
          refine wpAnyH_ready (rs := [9]) (by kernel_rfl) (by simp) ?_
          refine held_cons rfl (fun K hK => ?_) AllReadyH.nil
          have r0 := (HT9.out.pr 1 rfl).1
          have r1 := (HT9.out.pr 1 rfl).2
          have f0 := (HT9.out.at 1 rfl).frz 0
          have f1 := (HT9.out.at 1 rfl).frz 1
          go_simp
          refine hK.out _ _ ?_ (fun hHeld2 => ?_)
          · exact (HT9.out.two 1 (x := .int .i64 n) (y := .slice (some ⟨b2, 0, none⟩) (wcount n) (wcount n)) rfl).pr 7 rfl
          clear hK K hHeld
          have hHeld := hHeld2
          clear hHeld2
          (try simp only [Act.put, List.setIfInBounds_toArray, List.set_cons_zero, List.set_cons_succ])
          have HT10 := Lib.hid (HT9.out.two 1 (x := .int .i64 n) (y := .slice (some ⟨b2, 0, none⟩) (wcount n) (wcount n)) rfl)
          clear r0 r1 f0 f1
          generalize (wt9.setCell ⟨L7, 0, none⟩ (.int .i64 n)).setCell ⟨L7, 1, none⟩ (.slice (some ⟨b2, 0, none⟩) (wcount n) (wcount n)) = wt10 at *
          refine wpAnyH_done (by kernel_rfl) ?_ _
          go_wp2_with fail
          go_meet
          exact ⟨L8, L7, b1, b2, rfl, rfl, HT10.out.sub (by simp) (by have := HT10.out.nd; simp only [List.set_cons_zero, List.set_cons_succ, List.map_cons, List.map_nil, List.nodup_cons, List.mem_cons, List.not_mem_nil, or_false, not_or, not_false_eq_true, List.nodup_nil, and_true] at this ⊢; omega)⟩
        exact AllReadyH.nil
      refine held_cons rfl (fun K hK => ?_) ?_
      · go_simp
        refine hK.out _ _ ?_ (fun hHeld2 => ?_)
        · exact (HT1.out.lay 26 [Value.int .i64 0, .slice none 0 0]).pr 5 rfl
        clear hK K hHeld
        have hHeld := hHeld2
        clear hHeld2
        (try simp only [Act.put, List.setIfInBounds_toArray, List.set_cons_zero, List.set_cons_succ])
        have HT11 := Lib.hid (HT1.out.lay 26 [Value.int .i64 0, .slice none 0 0])
        generalize wt1.alloc (.cells (List.toArray [Value.int .i64 0, .slice none 0 0]) 26) = wt11 at *
        generalize wt1.heap.size = L11 at *
        refine wpAnyH_ready (rs := [5, 7]) (by kernel_rfl) (by simp) ?_
        refine held_cons rfl (fun K hK => ?_) ?_
        · go_simp
          refine (HBl.out _).mono ?_; rintro e wt12 ⟨v12, b12, rfl, hv12, hge12, hb12⟩
          obtain rfl := hv12.e
          have HT12 := Lib.hid (HT11.out.cons hb12 hv12.blk hge12)
          clear hv12 hge12 hb12
          (try go_simp)
          refine hK.out _ _ ?_ (fun hHeld2 => ?_)
          · exact HT12.out.pr 6 rfl
          clear hK K hHeld
          have hHeld := hHeld2
          clear hHeld2
          (try simp only [Act.put, List.setIfInBounds_toArray, List.set_cons_zero, List.set_cons_succ])
          refine wpAnyH_ready (rs := [7]) (by kernel_rfl) (by simp) ?_
          refine held_cons rfl (fun K hK => ?_) AllReadyH.nil
          go_simp
          refine hK.out _ _ ?_ (fun hHeld2 => ?_)
          · exact (HT12.out.lay 26 [Value.int .i64 0, .slice none 0 0]).pr 7 rfl
          clear hK K hHeld
          have hHeld := hHeld2
          clear hHeld2
          (try simp only [Act.put, List.setIfInBounds_toArray, List.set_cons_zero, List.set_cons_succ])
          have HT13 := Lib.hid (HT12.out.lay 26 [Value.int .i64 0, .slice none 0 0])
          generalize wt12.alloc (.cells (List.toArray [Value.int .i64 0, .slice none 0 0]) 26) = wt13 at *
          generalize wt12.heap.size = L13 at *
          refine wpAnyH_ready (rs := [8]) (by kernel_rfl) (by simp) ?_
          refine held_cons rfl (fun K hK => ?_) AllReadyH.nil
          have r0 := (HT13.out.pr 2 rfl).1
          have r1 := (HT13.out.pr 2 rfl).2
          have f0 := (HT13.out.at 2 rfl).frz 0
          have f1 := (HT13.out.at 2 rfl).frz 1
          go_simp
          refine hK.out _ _ ?_ (fun hHeld2 => ?_)
          · exact (HT13.out.two 2 (x := .int .i64 n) (y := .slice (some ⟨b1, 0, none⟩) (wcount n) (wcount n)) rfl).pr 7 rfl
          clear hK K hHeld
          have hHeld := hHeld2
          clear hHeld2
          (try simp only [Act.put, List.setIfInBounds_toArray, List.set_cons_zero, List.set_cons_succ])
          have HT14 := Lib.hid (HT13.out.two 2 (x := .int .i64 n) (y := .slice (some ⟨b1, 0, none⟩) (wcount n) (wcount n)) rfl)
          clear r0 r1 f0 f1
          generalize (wt13.setCell ⟨L11, 0, none⟩ (.int .i64 n)).setCell ⟨L11, 1, none⟩ (.slice (some ⟨b1, 0, none⟩) (wcount n) (wcount n)) = wt14 at *
          refine wpAnyH_ready (rs := [9]) (by kernel_rfl) (by simp) ?_
          refine held_cons rfl (fun K hK => ?_) AllReadyH.nil
          have r0 := (HT14.out.pr 0 rfl).1
          have r1 := (HT14.out.pr 0 rfl).2
          have f0 := (HT14.out.at 0 rfl).frz 0
          have f1 := (HT14.out.at 0 rfl).frz 1
          go_simp
          refine hK.out _ _ ?_ (fun hHeld2 => ?_)
          · exact (HT14.out.two 0 (x := .int .i64 n) (y := .slice (some ⟨b12, 0, none⟩) (wcount n) (wcount n)) rfl).pr 7 rfl
          clear hK K hHeld
          have hHeld := hHeld2
          clear hHeld2
          (try simp only [Act.put, List.setIfInBounds_toArray, List.set_cons_zero, List.set_cons_succ])
          have HT15 := Lib.hid (HT14.out.two 0 (x := .int .i64 n) (y := .slice (some ⟨b12, 0, none⟩) (wcount n) (wcount n)) rfl)
          clear r0 r1 f0 f1
          generalize (wt14.setCell ⟨L13, 0, none⟩ (.int .i64 n)).setCell ⟨L13, 1, none⟩ (.slice (some ⟨b12, 0, none⟩) (wcount n) (wcount n)) = wt15 at *
          refine wpAnyH_done (by kernel_rfl) ?_ _
          go_wp2_with fail
          go_meet
          exact ⟨L11, L13, b1, b12, rfl, rfl, HT15.out.sub (by simp) (by have := HT15.out.nd; simp only [List.set_cons_zero, List.set_cons_succ, List.map_cons, List.map_nil, List.nodup_cons, List.mem_cons, List.not_mem_nil, or_false, not_or, not_false_eq_true, List.nodup_nil, and_true] at this ⊢; omega)⟩
        refine held_cons rfl (fun K hK => ?_) ?_
        · go_simp
          refine hK.out _ _ ?_ (fun hHeld2 => ?_)
          · exact (HT11.out.lay 26 [Value.int .i64 0, .slice none 0 0]).pr 6 rfl
          clear hK K hHeld
          have hHeld := hHeld2
          clear hHeld2
          (try simp only [Act.put, List.setIfInBounds_toArray, List.set_cons_zero, List.set_cons_succ])
          have HT16 := Lib.hid (HT11.out.lay 26 [Value.int .i64 0, .slice none 0 0])
          generalize wt11.alloc (.cells (List.toArray [Value.int .i64 0, .slice none 0 0]) 26) = wt16 at *
          generalize wt11.heap.size = L16 at *
          refine wpAnyH_ready (rs := [5]) (by kernel_rfl) (by simp) ?_
          refine held_cons rfl (fun K hK => ?_) AllReadyH.nil
          go_simp
          refine (HBl.out _).mono ?_; rintro e wt17 ⟨v17, b17, rfl, hv17, hge17, hb17⟩
          obtain rfl := hv17.e
          have HT17 := Lib.hid (HT16.out.cons hb17 hv17.blk hge17)
          clear hv17 hge17 hb17
          (try go_simp)
          refine hK.out _ _ ?_ (fun hHeld2 => ?_)
          · exact HT17.out.pr 7 rfl
          clear hK K hHeld
          have hHeld := hHeld2
          clear hHeld2
          (try simp only [Act.put, List.setIfInBounds_toArray, List.set_cons_zero, List.set_cons_succ])
          refine wpAnyH_ready (rs := [8]) (by kernel_rfl) (by simp) ?_
          refine held_cons rfl (fun K hK => ?_) AllReadyH.nil
          have r0 := (HT17.out.pr 2 rfl).1
          have r1 := (HT17.out.pr 2 rfl).2
          have f0 := (HT17.out.at 2 rfl).frz 0
          have f1 := (HT17.out.at 2 rfl).frz 1
          go_simp
          refine hK.out _ _ ?_ (fun hHeld2 => ?_)
          · exact (HT17.out.two 2 (x := .int .i64 n) (y := .slice (some ⟨b1, 0, none⟩) (wcount n) (wcount n)) rfl).pr 7 rfl
          clear hK K hHeld
          have hHeld := hHeld2
          clear hHeld2
          (try simp only [Act.put, List.setIfInBounds_toArray, List.set_cons_zero, List.set_cons_succ])
          have HT18 := Lib.hid (HT17.out.two 2 (x := .int .i64 n) (y := .slice (some ⟨b1, 0, none⟩) (wcount n) (wcount n)) rfl)
          clear r0 r1 f0 f1
          generalize (wt17.setCell ⟨L11, 0, none⟩ (.int .i64 n)).setCell ⟨L11, 1, none⟩ (.slice (some ⟨b1, 0, none⟩) (wcount n) (wcount n)) = wt18 at *
          refine wpAnyH_ready (rs := [9]) (by kernel_rfl) (by simp) ?_
          refine held_cons rfl (fun K hK => ?_) AllReadyH.nil
          have r0 := (HT18.out.pr 1 rfl).1
          have r1 := (HT18.out.pr 1 rfl).2
          have f0 := (HT18.out.at 1 rfl).frz 0
          have f1 := (HT18.out.at 1 rfl).frz 1
          go_simp
          refine hK.out _ _ ?_ (fun hHeld2 => ?_)
          · exact (HT18.out.two 1 (x := .int .i64 n) (y := .slice (some ⟨b17, 0, none⟩) (wcount n) (wcount n)) rfl).pr 7 rfl
          clear hK K hHeld
          have hHeld := hHeld2
          clear hHeld2
          (try simp only [Act.put, List.setIfInBounds_toArray, List.set_cons_zero, List.set_cons_succ])
          have HT19 := Lib.hid (HT18.out.two 1 (x := .int .i64 n) (y := .slice (some ⟨b17, 0, none⟩) (wcount n) (wcount n)) rfl)
          clear r0 r1 f0 f1
          generalize (wt18.setCell ⟨L16, 0, none⟩ (.int .i64 n)).setCell ⟨L16, 1, none⟩ (.slice (some ⟨b17, 0, none⟩) (wcount n) (wcount n)) = wt19 at *
          refine wpAnyH_done (by kernel_rfl) ?_ _
          go_wp2_with fail
          go_meet
          exact ⟨L11, L16, b1, b17, rfl, rfl, HT19.out.sub (by simp) (by have := HT19.out.nd; simp only [List.set_cons_zero, List.set_cons_succ, List.map_cons, List.map_nil, List.nodup_cons, List.mem_cons, List.not_mem_nil, or_false, not_or, not_false_eq_true, List.nodup_nil, and_true] at this ⊢; omega)⟩
        exact AllReadyH.nil
      refine held_cons rfl (fun K hK => ?_) ?_
      · go_simp
        refine hK.out _ _ ?_ (fun hHeld2 => ?_)
        · exact (HT1.out.lay 26 [Value.int .i64 0, .slice none 0 0]).pr 5 rfl
        clear hK K hHeld
        have hHeld := hHeld2
        clear hHeld2
        (try simp only [Act.put, List.setIfInBounds_toArray, List.set_cons_zero, List.set_cons_succ])
        have HT20 := Lib.hid (HT1.out.lay 26 [Value.int .i64 0, .slice none 0 0])
        generalize wt1.alloc (.cells (List.toArray [Value.int .i64 0, .slice none 0 0]) 26) = wt20 at *
        generalize wt1.heap.size = L20 at *
        refine wpAnyH_ready (rs := [5, 6]) (by kernel_rfl) (by simp) ?_
        refine held_cons rfl (fun K hK => ?_) ?_
        · go_simp
          refine (HBl.out _).mono ?_; rintro e wt21 ⟨v21, b21, rfl, hv21, hge21, hb21⟩
          obtain rfl := hv21.e
          have HT21 := Lib.hid (HT20.out.cons hb21 hv21.blk hge21)
          clear hv21 hge21 hb21
          (try go_simp)
          refine hK.out _ _ ?_ (fun hHeld2 => ?_)
          · exact HT21.out.pr 6 rfl
          clear hK K hHeld
          have hHeld := hHeld2
          clear hHeld2
          (try simp only [Act.put, List.setIfInBounds_toArray, List.set_cons_zero, List.set_cons_succ])
          refine wpAnyH_ready (rs := [6]) (by kernel_rfl) (by simp) ?_
          refine held_cons rfl (fun K hK => ?_) AllReadyH.nil
          go_simp
          refine hK.out _ _ ?_ (fun hHeld2 => ?_)
          · exact (HT21.out.lay 26 [Value.int .i64 0, .slice none 0 0]).pr 7 rfl
          clear hK K hHeld
          have hHeld := hHeld2
          clear hHeld2
          (try simp only [Act.put, List.setIfInBounds_toArray, List.set_cons_zero, List.set_cons_succ])
          have HT22 := Lib.hid (HT21.out.lay 26 [Value.int .i64 0, .slice none 0 0])
          generalize wt21.alloc (.cells (List.toArray [Value.int .i64 0, .slice none 0 0]) 26) = wt22 at *
          generalize wt21.heap.size = L22 at *
          refine wpAnyH_ready (rs := [8]) (by kernel_rfl) (by simp) ?_
          refine held_cons rfl (fun K hK => ?_) AllReadyH.nil
          have r0 := (HT22.out.pr 0 rfl).1
          have r1 := (HT22.out.pr 0 rfl).2
          have f0 := (HT22.out.at 0 rfl).frz 0
          have f1 := (HT22.out.at 0 rfl).frz 1
          go_simp
          refine hK.out _ _ ?_ (fun hHeld2 => ?_)
          · exact (HT22.out.two 0 (x := .int .i64 n) (y := .slice (some ⟨b1, 0, none⟩) (wcount n) (wcount n)) rfl).pr 7 rfl
          clear hK K hHeld
          have hHeld := hHeld2
          clear hHeld2
          (try simp only [Act.put, List.setIfInBounds_toArray, List.set_cons_zero, List.set_cons_succ])
          have HT23 := Lib.hid (HT22.out.two 0 (x := .int .i64 n) (y := .slice (some ⟨b1, 0, none⟩) (wcount n) (wcount n)) rfl)
          clear r0 r1 f0 f1
          generalize (wt22.setCell ⟨L22, 0, none⟩ (.int .i64 n)).setCell ⟨L22, 1, none⟩ (.slice (some ⟨b1, 0, none⟩) (wcount n) (wcount n)) = wt23 at *
          refine wpAnyH_ready (rs := [9]) (by kernel_rfl) (by simp) ?_
          refine held_cons rfl (fun K hK => ?_) AllReadyH.nil
          have r0 := (HT23.out.pr 2 rfl).1
          have r1 := (HT23.out.pr 2 rfl).2
          have f0 := (HT23.out.at 2 rfl).frz 0
          have f1 := (HT23.out.at 2 rfl).frz 1
          go_simp
          refine hK.out _ _ ?_ (fun hHeld2 => ?_)
          · exact (HT23.out.two 2 (x := .int .i64 n) (y := .slice (some ⟨b21, 0, none⟩) (wcount n) (wcount n)) rfl).pr 7 rfl
          clear hK K hHeld
          have hHeld := hHeld2
          clear hHeld2
          (try simp only [Act.put, List.setIfInBounds_toArray, List.set_cons_zero, List.set_cons_succ])
          have HT24 := Lib.hid (HT23.out.two 2 (x := .int .i64 n) (y := .slice (some ⟨b21, 0, none⟩) (wcount n) (wcount n)) rfl)
          clear r0 r1 f0 f1
          generalize (wt23.setCell ⟨L20, 0, none⟩ (.int .i64 n)).setCell ⟨L20, 1, none⟩ (.slice (some ⟨b21, 0, none⟩) (wcount n) (wcount n)) = wt24 at *
          refine wpAnyH_done (by kernel_rfl) ?_ _
          go_wp2_with fail
          go_meet
          exact ⟨L22, L20, b1, b21, rfl, rfl, HT24.out.sub (by simp) (by have := HT24.out.nd; simp only [List.set_cons_zero, List.set_cons_succ, List.map_cons, List.map_nil, List.nodup_cons, List.mem_cons, List.not_mem_nil, or_false, not_or, not_false_eq_true, List.nodup_nil, and_true] at this ⊢; omega)⟩
        refine held_cons rfl (fun K hK => ?_) ?_
        · go_simp
          refine hK.out _ _ ?_ (fun hHeld2 => ?_)
          · exact (HT20.out.lay 26 [Value.int .i64 0, .slice none 0 0]).pr 6 rfl
          clear hK K hHeld
          have hHeld := hHeld2
          clear hHeld2
          (try simp only [Act.put, List.setIfInBounds_toArray, List.set_cons_zero, List.set_cons_succ])
          have HT25 := Lib.hid (HT20.out.lay 26 [Value.int .i64 0, .slice none 0 0])
          generalize wt20.alloc (.cells (List.toArray [Value.int .i64 0, .slice none 0 0]) 26) = wt25 at *
          generalize wt20.heap.size = L25 at *
          refine wpAnyH_ready (rs := [5]) (by kernel_rfl) (by simp) ?_
          refine held_cons rfl (fun K hK => ?_) AllReadyH.nil
          go_simp
          refine (HBl.out _).mono ?_; rintro e wt26 ⟨v26, b26, rfl, hv26, hge26, hb26⟩
          obtain rfl := hv26.e
          have HT26 := Lib.hid (HT25.out.cons hb26 hv26.blk hge26)
          clear hv26 hge26 hb26
          (try go_simp)
          refine hK.out _ _ ?_ (fun hHeld2 => ?_)
          · exact HT26.out.pr 7 rfl
          clear hK K hHeld
          have hHeld := hHeld2
          clear hHeld2
          (try simp only [Act.put, List.setIfInBounds_toArray, List.set_cons_zero, List.set_cons_succ])
          refine wpAnyH_ready (rs := [8]) (by kernel_rfl) (by simp) ?_
          refine held_cons rfl (fun K hK => ?_) AllReadyH.nil
          have r0 := (HT26.out.pr 1 rfl).1
          have r1 := (HT26.out.pr 1 rfl).2
          have f0 := (HT26.out.at 1 rfl).frz 0
          have f1 := (HT26.out.at 1 rfl).frz 1
          go_simp
          refine hK.out _ _ ?_ (fun hHeld2 => ?_)
          · exact (HT26.out.two 1 (x := .int .i64 n) (y := .slice (some ⟨b1, 0, none⟩) (wcount n) (wcount n)) rfl).pr 7 rfl
          clear hK K hHeld
          have hHeld := hHeld2
          clear hHeld2
          (try simp only [Act.put, List.setIfInBounds_toArray, List.set_cons_zero, List.set_cons_succ])
          have HT27 := Lib.hid (HT26.out.two 1 (x := .int .i64 n) (y := .slice (some ⟨b1, 0, none⟩) (wcount n) (wcount n)) rfl)
          clear r0 r1 f0 f1
          generalize (wt26.setCell ⟨L25, 0, none⟩ (.int .i64 n)).setCell ⟨L25, 1, none⟩ (.slice (some ⟨b1, 0, none⟩) (wcount n) (wcount n)) = wt27 at *
          refine wpAnyH_ready (rs := [9]) (by kernel_rfl) (by simp) ?_
          refine held_cons rfl (fun K hK => ?_) AllReadyH.nil
          have r0 := (HT27.out.pr 2 rfl).1
          have r1 := (HT27.out.pr 2 rfl).2
          have f0 := (HT27.out.at 2 rfl).frz 0
          have f1 := (HT27.out.at 2 rfl).frz 1
          go_simp
          refine hK.out _ _ ?_ (fun hHeld2 => ?_)
          · exact (HT27.out.two 2 (x := .int .i64 n) (y := .slice (some ⟨b26, 0, none⟩) (wcount n) (wcount n)) rfl).pr 7 rfl
          clear hK K hHeld
          have hHeld := hHeld2
          clear hHeld2
          (try simp only [Act.put, List.setIfInBounds_toArray, List.set_cons_zero, List.set_cons_succ])
          have HT28 := Lib.hid (HT27.out.two 2 (x := .int .i64 n) (y := .slice (some ⟨b26, 0, none⟩) (wcount n) (wcount n)) rfl)
          clear r0 r1 f0 f1
          generalize (wt27.setCell ⟨L20, 0, none⟩ (.int .i64 n)).setCell ⟨L20, 1, none⟩ (.slice (some ⟨b26, 0, none⟩) (wcount n) (wcount n)) = wt28 at *
          refine wpAnyH_done (by kernel_rfl) ?_ _
          go_wp2_with fail
          go_meet
          exact ⟨L25, L20, b1, b26, rfl, rfl, HT28.out.sub (by simp) (by have := HT28.out.nd; simp only [List.set_cons_zero, List.set_cons_succ, List.map_cons, List.map_nil, List.nodup_cons, List.mem_cons, List.not_mem_nil, or_false, not_or, not_false_eq_true, List.nodup_nil, and_true] at this ⊢; omega)⟩
        exact AllReadyH.nil
      exact AllReadyH.nil
    refine held_cons rfl (fun K hK => ?_) ?_
    · go_simp
      refine hK.out _ _ ?_ (fun hHeld2 => ?_)
      · exact (HT0.out.lay 26 [Value.int .i64 0, .slice none 0 0]).pr 4 rfl
      clear hK K hHeld
      have hHeld := hHeld2
      clear hHeld2
      (try simp only [Act.put, List.setIfInBounds_toArray, List.set_cons_zero, List.set_cons_succ])
      have HT29 := Lib.hid (HT0.out.lay 26 [Value.int .i64 0, .slice none 0 0])
      generalize D.alloc (.cells (List.toArray [Value.int .i64 0, .slice none 0 0]) 26) = wt29 at *
      generalize D.heap.size = L29 at *
      refine wpAnyH_ready (rs := [2, 7]) (by kernel_rfl) (by simp) ?_
      refine held_cons rfl (fun K hK => ?_) ?_
      · go_simp
        refine (HBl.out _).mono ?_; rintro e wt30 ⟨v30, b30, rfl, hv30, hge30, hb30⟩
        obtain rfl := hv30.e
        have HT30 := Lib.hid (HT29.out.cons hb30 hv30.blk hge30)
        clear hv30 hge30 hb30
        (try go_simp)
        refine hK.out _ _ ?_ (fun hHeld2 => ?_)
        · exact HT30.out.pr 5 rfl
        clear hK K hHeld
        have hHeld := hHeld2
        clear hHeld2
        (try simp only [Act.put, List.setIfInBounds_toArray, List.set_cons_zero, List.set_cons_succ])
        refine wpAnyH_ready (rs := [5, 7]) (by kernel_rfl) (by simp) ?_
        refine held_cons rfl (fun K hK => ?_) ?_
        · go_simp
          refine (HBl.out _).mono ?_; rintro e wt31 ⟨v31, b31, rfl, hv31, hge31, hb31⟩
          obtain rfl := hv31.e
          have HT31 := Lib.hid (HT30.out.cons hb31 hv31.blk hge31)
          clear hv31 hge31 hb31
          (try go_simp)
          refine hK.out _ _ ?_ (fun hHeld2 => ?_)
          · exact HT31.out.pr 6 rfl
          clear hK K hHeld
          have hHeld := hHeld2
          clear hHeld2
          (try simp only [Act.put, List.setIfInBounds_toArray, List.set_cons_zero, List.set_cons_succ])
          refine wpAnyH_ready (rs := [7]) (by kernel_rfl) (by simp) ?_
          refine held_cons rfl (fun K hK => ?_) AllReadyH.nil
          go_simp
          refine hK.out _ _ ?_ (fun hHeld2 => ?_)
          · exact (HT31.out.lay 26 [Value.int .i64 0, .slice none 0 0]).pr 7 rfl
          clear hK K hHeld
          have hHeld := hHeld2
          clear hHeld2
          (try simp only [Act.put, List.setIfInBounds_toArray, List.set_cons_zero, List.set_cons_succ])
          have HT32 := Lib.hid (HT31.out.lay 26 [Value.int .i64 0, .slice none 0 0])
          generalize wt31.alloc (.cells (List.toArray [Value.int .i64 0, .slice none 0 0]) 26) = wt32 at *
          generalize wt31.heap.size = L32 at *
          refine wpAnyH_ready (rs := [8]) (by kernel_rfl) (by simp) ?_
          refine held_cons rfl (fun K hK => ?_) AllReadyH.nil
          have r0 := (HT32.out.pr 3 rfl).1
          have r1 := (HT32.out.pr 3 rfl).2
          have f0 := (HT32.out.at 3 rfl).frz 0
          have f1 := (HT32.out.at 3 rfl).frz 1
          go_simp
          refine hK.out _ _ ?_ (fun hHeld2 => ?_)
          · exact (HT32.out.two 3 (x := .int .i64 n) (y := .slice (some ⟨b30, 0, none⟩) (wcount n) (wcount n)) rfl).pr 7 rfl
          clear hK K hHeld
          have hHeld := hHeld2
          clear hHeld2
          (try simp only [Act.put, List.setIfInBounds_toArray, List.set_cons_zero, List.set_cons_succ])
          have HT33 := Lib.hid (HT32.out.two 3 (x := .int .i64 n) (y := .slice (some ⟨b30, 0, none⟩) (wcount n) (wcount n)) rfl)
          clear r0 r1 f0 f1
          generalize (wt32.setCell ⟨L29, 0, none⟩ (.int .i64 n)).setCell ⟨L29, 1, none⟩ (.slice (some ⟨b30, 0, none⟩) (wcount n) (wcount n)) = wt33 at *
          refine wpAnyH_ready (rs := [9]) (by kernel_rfl) (by simp) ?_
          refine held_cons rfl (fun K hK => ?_) AllReadyH.nil
          have r0 := (HT33.out.pr 0 rfl).1
          have r1 := (HT33.out.pr 0 rfl).2
          have f0 := (HT33.out.at 0 rfl).frz 0
          have f1 := (HT33.out.at 0 rfl).frz 1
          go_simp
          refine hK.out _ _ ?_ (fun hHeld2 => ?_)
          · exact (HT33.out.two 0 (x := .int .i64 n) (y := .slice (some ⟨b31, 0, none⟩) (wcount n) (wcount n)) rfl).pr 7 rfl
          clear hK K hHeld
          have hHeld := hHeld2
          clear hHeld2
          (try simp only [Act.put, List.setIfInBounds_toArray, List.set_cons_zero, List.set_cons_succ])
          have HT34 := Lib.hid (HT33.out.two 0 (x := .int .i64 n) (y := .slice (some ⟨b31, 0, none⟩) (wcount n) (wcount n)) rfl)
          clear r0 r1 f0 f1
          generalize (wt33.setCell ⟨L32, 0, none⟩ (.int .i64 n)).setCell ⟨L32, 1, none⟩ (.slice (some ⟨b31, 0, none⟩) (wcount n) (wcount n)) = wt34 at *
          refine wpAnyH_done (by kernel_rfl) ?_ _
          go_wp2_with fail
          go_meet
          exact ⟨L29, L32, b30, b31, rfl, rfl, HT34.out.sub (by simp) (by have := HT34.out.nd; simp only [List.set_cons_zero, List.set_cons_succ, List.map_cons, List.map_nil, List.nodup_cons, List.mem_cons, List.not_mem_nil, or_false, not_or, not_false_eq_true, List.nodup_nil, and_true] at this ⊢; omega)⟩
        refine held_cons rfl (fun K hK => ?_) ?_
        · go_simp
          refine hK.out _ _ ?_ (fun hHeld2 => ?_)
          · exact (HT30.out.lay 26 [Value.int .i64 0, .slice none 0 0]).pr 6 rfl
          clear hK K hHeld
          have hHeld := hHeld2
          clear hHeld2
          (try simp only [Act.put, List.setIfInBounds_toArray, List.set_cons_zero, List.set_cons_succ])
          have HT35 := Lib.hid (HT30.out.lay 26 [Value.int .i64 0, .slice none 0 0])
          generalize wt30.alloc (.cells (List.toArray [Value.int .i64 0, .slice none 0 0]) 26) = wt35 at *
          generalize wt30.heap.size = L35 at *
          refine wpAnyH_ready (rs := [5]) (by kernel_rfl) (by simp) ?_
          refine held_cons rfl (fun K hK => ?_) AllReadyH.nil
          go_simp
          refine (HBl.out _).mono ?_; rintro e wt36 ⟨v36, b36, rfl, hv36, hge36, hb36⟩
          obtain rfl := hv36.e
          have HT36 := Lib.hid (HT35.out.cons hb36 hv36.blk hge36)
          clear hv36 hge36 hb36
          (try go_simp)
          refine hK.out _ _ ?_ (fun hHeld2 => ?_)
          · exact HT36.out.pr 7 rfl
          clear hK K hHeld
          have hHeld := hHeld2
          clear hHeld2
          (try simp only [Act.put, List.setIfInBounds_toArray, List.set_cons_zero, List.set_cons_succ])
          refine wpAnyH_ready (rs := [8]) (by kernel_rfl) (by simp) ?_
          refine held_cons rfl (fun K hK => ?_) AllReadyH.nil
          have r0 := (HT36.out.pr 3 rfl).1
          have r1 := (HT36.out.pr 3 rfl).2
          have f0 := (HT36.out.at 3 rfl).frz 0
          have f1 := (HT36.out.at 3 rfl).frz 1
          go_simp
          refine hK.out _ _ ?_ (fun hHeld2 => ?_)
          · exact (HT36.out.two 3 (x := .int .i64 n) (y := .slice (some ⟨b30, 0, none⟩) (wcount n) (wcount n)) rfl).pr 7 rfl
          clear hK K hHeld
          have hHeld := hHeld2
          clear hHeld2
          (try simp only [Act.put, List.setIfInBounds_toArray, List.set_cons_zero, List.set_cons_succ])
          have HT37 := Lib.hid (HT36.out.two 3 (x := .int .i64 n) (y := .slice (some ⟨b30, 0, none⟩) (wcount n) (wcount n)) rfl)
          clear r0 r1 f0 f1
          generalize (wt36.setCell ⟨L29, 0, none⟩ (.int .i64 n)).setCell ⟨L29, 1, none⟩ (.slice (some ⟨b30, 0, none⟩) (wcount n) (wcount n)) = wt37 at *
          refine wpAnyH_ready (rs := [9]) (by kernel_rfl) (by simp) ?_
          refine held_cons rfl (fun K hK => ?_) AllReadyH.nil
          have r0 := (HT37.out.pr 1 rfl).1
          have r1 := (HT37.out.pr 1 rfl).2
          have f0 := (HT37.out.at 1 rfl).frz 0
          have f1 := (HT37.out.at 1 rfl).frz 1
          go_simp
          refine hK.out _ _ ?_ (fun hHeld2 => ?_)
          · exact (HT37.out.two 1 (x := .int .i64 n) (y := .slice (some ⟨b36, 0, none⟩) (wcount n) (wcount n)) rfl).pr 7 rfl
          clear hK K hHeld
          have hHeld := hHeld2
          clear hHeld2
          (try simp only [Act.put, List.setIfInBounds_toArray, List.set_cons_zero, List.set_cons_succ])
          have HT38 := Lib.hid (HT37.out.two 1 (x := .int .i64 n) (y := .slice (some ⟨b36, 0, none⟩) (wcount n) (wcount n)) rfl)
          clear r0 r1 f0 f1
          generalize (wt37.setCell ⟨L35, 0, none⟩ (.int .i64 n)).setCell ⟨L35, 1, none⟩ (.slice (some ⟨b36, 0, none⟩) (wcount n) (wcount n)) = wt38 at *
          refine wpAnyH_done (by kernel_rfl) ?_ _
          go_wp2_with fail
          go_meet
          exact ⟨L29, L35, b30, b36, rfl, rfl, HT38.out.sub (by simp) (by have := HT38.out.nd; simp only [List.set_cons_zero, List.set_cons_succ, List.map_cons, List.map_nil, List.nodup_cons, List.mem_cons, List.not_mem_nil, or_false, not_or, not_false_eq_true, List.nodup_nil, and_true] at this ⊢; omega)⟩
        exact AllReadyH.nil
      refine held_cons rfl (fun K hK => ?_) ?_
      · go_simp
        refine hK.out _ _ ?_ (fun hHeld2 => ?_)
        · exact (HT29.out.lay 26 [Value.int .i64 0, .slice none 0 0]).pr 5 rfl
        clear hK K hHeld
        have hHeld := hHeld2
        clear hHeld2
        (try simp only [Act.put, List.setIfInBounds_toArray, List.set_cons_zero, List.set_cons_succ])
        have HT39 := Lib.hid (HT29.out.lay 26 [Value.int .i64 0, .slice none 0 0])
        generalize wt29.alloc (.cells (List.toArray [Value.int .i64 0, .slice none 0 0]) 26) = wt39 at *
        generalize wt29.heap.size = L39 at *
        refine wpAnyH_ready (rs := [2]) (by kernel_rfl) (by simp) ?_
        refine held_cons rfl (fun K hK => ?_) AllReadyH.nil
        go_simp
        refine (HBl.out _).mono ?_; rintro e wt40 ⟨v40, b40, rfl, hv40, hge40, hb40⟩
        obtain rfl := hv40.e
        have HT40 := Lib.hid (HT39.out.cons hb40 hv40.blk hge40)
        clear hv40 hge40 hb40
        (try go_simp)
        refine hK.out _ _ ?_ (fun hHeld2 => ?_)
        · exact HT40.out.pr 6 rfl
        clear hK K hHeld
        have hHeld := hHeld2
        clear hHeld2
        (try simp only [Act.put, List.setIfInBounds_toArray, List.set_cons_zero, List.set_cons_succ])
        refine wpAnyH_ready (rs := [5]) (by kernel_rfl) (by simp) ?_
        refine held_cons rfl (fun K hK => ?_) AllReadyH.nil
        go_simp
        refine (HBl.out _).mono ?_; rintro e wt41 ⟨v41, b41, rfl, hv41, hge41, hb41⟩
        obtain rfl := hv41.e
        have HT41 := Lib.hid (HT40.out.cons hb41 hv41.blk hge41)
        clear hv41 hge41 hb41
        (try go_simp)
        refine hK.out _ _ ?_ (fun hHeld2 => ?_)
        · exact HT41.out.pr 7 rfl
        clear hK K hHeld
        have hHeld := hHeld2
        clear hHeld2
        (try simp only [Act.put, List.setIfInBounds_toArray, List.set_cons_zero, List.set_cons_succ])
        refine wpAnyH_ready (rs := [8]) (by kernel_rfl) (by simp) ?_
        refine held_cons rfl (fun K hK => ?_) AllReadyH.nil
        have r0 := (HT41.out.pr 3 rfl).1
        have r1 := (HT41.out.pr 3 rfl).2
        have f0 := (HT41.out.at 3 rfl).frz 0
        have f1 := (HT41.out.at 3 rfl).frz 1
        go_simp
        refine hK.out _ _ ?_ (fun hHeld2 => ?_)
        · exact (HT41.out.two 3 (x := .int .i64 n) (y := .slice (some ⟨b40, 0, none⟩) (wcount n) (wcount n)) rfl).pr 7 rfl
        clear hK K hHeld
        have hHeld := hHeld2
        clear hHeld2
        (try simp only [Act.put, List.setIfInBounds_toArray, List.set_cons_zero, List.set_cons_succ])
        have HT42 := Lib.hid (HT41.out.two 3 (x := .int .i64 n) (y := .slice (some ⟨b40, 0, none⟩) (wcount n) (wcount n)) rfl)
        clear r0 r1 f0 f1
        generalize (wt41.setCell ⟨L29, 0, none⟩ (.int .i64 n)).setCell ⟨L29, 1, none⟩ (.slice (some ⟨b40, 0, none⟩) (wcount n) (wcount n)) = wt42 at *
        refine wpAnyH_ready (rs := [9]) (by kernel_rfl) (by simp) ?_
        refine held_cons rfl (fun K hK => ?_) AllReadyH.nil
        have r0 := (HT42.out.pr 2 rfl).1
        have r1 := (HT42.out.pr 2 rfl).2
        have f0 := (HT42.out.at 2 rfl).frz 0
        have f1 := (HT42.out.at 2 rfl).frz 1
        go_simp
        refine hK.out _ _ ?_ (fun hHeld2 => ?_)
        · exact (HT42.out.two 2 (x := .int .i64 n) (y := .slice (some ⟨b41, 0, none⟩) (wcount n) (wcount n)) rfl).pr 7 rfl
        clear hK K hHeld
        have hHeld := hHeld2
        clear hHeld2
        (try simp only [Act.put, List.setIfInBounds_toArray, List.set_cons_zero, List.set_cons_succ])
        have HT43 := Lib.hid (HT42.out.two 2 (x := .int .i64 n) (y := .slice (some ⟨b41, 0, none⟩) (wcount n) (wcount n)) rfl)
        clear r0 r1 f0 f1
        generalize (wt42.setCell ⟨L39, 0, none⟩ (.int .i64 n)).setCell ⟨L39, 1, none⟩ (.slice (some ⟨b41, 0, none⟩) (wcount n) (wcount n)) = wt43 at *
        refine wpAnyH_done (by kernel_rfl) ?_ _
        go_wp2_with fail
        go_meet
        exact ⟨L29, L39, b40, b41, rfl, rfl, HT43.out.sub (by simp) (by have := HT43.out.nd; simp only [List.set_cons_zero, List.set_cons_succ, List.map_cons, List.map_nil, List.nodup_cons, List.mem_cons, List.not_mem_nil, or_false, not_or, not_false_eq_true, List.nodup_nil, and_true] at this ⊢; omega)⟩
      exact AllReadyH.nil
    refine held_cons rfl (fun K hK => ?_) ?_
    · go_simp
      refine hK.out _ _ ?_ (fun hHeld2 => ?_)
      · exact (HT0.out.lay 26 [Value.int .i64 0, .slice none 0 0]).pr 4 rfl
      clear hK K hHeld
      have hHeld := hHeld2
      clear hHeld2
      (try simp only [Act.put, List.setIfInBounds_toArray, List.set_cons_zero, List.set_cons_succ])
      have HT44 := Lib.hid (HT0.out.lay 26 [Value.int .i64 0, .slice none 0 0])
      generalize D.alloc (.cells (List.toArray [Value.int .i64 0, .slice none 0 0]) 26) = wt44 at *
      generalize D.heap.size = L44 at *
      refine wpAnyH_ready (rs := [2, 6]) (by kernel_rfl) (by simp) ?_
      refine held_cons rfl (fun K hK => ?_) ?_
      · go_simp
        refine (HBl.out _).mono ?_; rintro e wt45 ⟨v45, b45, rfl, hv45, hge45, hb45⟩
        obtain rfl := hv45.e
        have HT45 := Lib.hid (HT44.out.cons hb45 hv45.blk hge45)
        clear hv45 hge45 hb45
        (try go_simp)
        refine hK.out _ _ ?_ (fun hHeld2 => ?_)
        · exact HT45.out.pr 5 rfl
        clear hK K hHeld
        have hHeld := hHeld2
        clear hHeld2
        (try simp only [Act.put, List.setIfInBounds_toArray, List.set_cons_zero, List.set_cons_succ])
        refine wpAnyH_ready (rs := [5, 6]) (by kernel_rfl) (by simp) ?_
        refine held_cons rfl (fun K hK => ?_) ?_
        · go_simp
          refine (HBl.out _).mono ?_; rintro e wt46 ⟨v46, b46, rfl, hv46, hge46, hb46⟩
          obtain rfl := hv46.e
          have HT46 := Lib.hid (HT45.out.cons hb46 hv46.blk hge46)
          clear hv46 hge46 hb46
          (try go_simp)
          refine hK.out _ _ ?_ (fun hHeld2 => ?_)
          · exact HT46.out.pr 6 rfl
          clear hK K hHeld
          have hHeld := hHeld2
          clear hHeld2
          (try simp only [Act.put, List.setIfInBounds_toArray, List.set_cons_zero, List.set_cons_succ])
          refine wpAnyH_ready (rs := [6]) (by kernel_rfl) (by simp) ?_
          refine held_cons rfl (fun K hK => ?_) AllReadyH.nil
          go_simp
          refine hK.out _ _ ?_ (fun hHeld2 => ?_)
          · exact (HT46.out.lay 26 [Value.int .i64 0, .slice none 0 0]).pr 7 rfl
          clear hK K hHeld
          have hHeld := hHeld2
          clear hHeld2
          (try simp only [Act.put, List.setIfInBounds_toArray, List.set_cons_zero, List.set_cons_succ])
          have HT47 := Lib.hid (HT46.out.lay 26 [Value.int .i64 0, .slice none 0 0])
          generalize wt46.alloc (.cells (List.toArray [Value.int .i64 0, .slice none 0 0]) 26) = wt47 at *
          generalize wt46.heap.size = L47 at *
          refine wpAnyH_ready (rs := [8]) (by kernel_rfl) (by simp) ?_
          refine held_cons rfl (fun K hK => ?_) AllReadyH.nil
          have r0 := (HT47.out.pr 0 rfl).1
          have r1 := (HT47.out.pr 0 rfl).2
          have f0 := (HT47.out.at 0 rfl).frz 0
          have f1 := (HT47.out.at 0 rfl).frz 1
          go_simp
          refine hK.out _ _ ?_ (fun hHeld2 => ?_)
          · exact (HT47.out.two 0 (x := .int .i64 n) (y := .slice (some ⟨b45, 0, none⟩) (wcount n) (wcount n)) rfl).pr 7 rfl
          clear hK K hHeld
          have hHeld := hHeld2
          clear hHeld2
          (try simp only [Act.put, List.setIfInBounds_toArray, List.set_cons_zero, List.set_cons_succ])
          have HT48 := Lib.hid (HT47.out.two 0 (x := .int .i64 n) (y := .slice (some ⟨b45, 0, none⟩) (wcount n) (wcount n)) rfl)
          clear r0 r1 f0 f1
          generalize (wt47.setCell ⟨L47, 0, none⟩ (.int .i64 n)).setCell ⟨L47, 1, none⟩ (.slice (some ⟨b45, 0, none⟩) (wcount n) (wcount n)) = wt48 at *
          refine wpAnyH_ready (rs := [9]) (by kernel_rfl) (by simp) ?_
          refine held_cons rfl (fun K hK => ?_) AllReadyH.nil
          have r0 := (HT48.out.pr 3 rfl).1
          have r1 := (HT48.out.pr 3 rfl).2
          have f0 := (HT48.out.at 3 rfl).frz 0
          have f1 := (HT48.out.at 3 rfl).frz 1
          go_simp
          refine hK.out _ _ ?_ (fun hHeld2 => ?_)
          · exact (HT48.out.two 3 (x := .int .i64 n) (y := .slice (some ⟨b46, 0, none⟩) (wcount n) (wcount n)) rfl).pr 7 rfl
          clear hK K hHeld
          have hHeld := hHeld2
          clear hHeld2
          (try simp only [Act.put, List.setIfInBounds_toArray, List.set_cons_zero, List.set_cons_succ])
          have HT49 := Lib.hid (HT48.out.two 3 (x := .int .i64 n) (y := .slice (some ⟨b46, 0, none⟩) (wcount n) (wcount n)) rfl)
          clear r0 r1 f0 f1
          generalize (wt48.setCell ⟨L44, 0, none⟩ (.int .i64 n)).setCell ⟨L44, 1, none⟩ (.slice (some ⟨b46, 0, none⟩) (wcount n) (wcount n)) = wt49 at *
          refine wpAnyH_done (by kernel_rfl) ?_ _
          go_wp2_with fail
          go_meet
          exact ⟨L47, L44, b45, b46, rfl, rfl, HT49.out.sub (by simp) (by have := HT49.out.nd; simp only [List.set_cons_zero, List.set_cons_succ, List.map_cons, List.map_nil, List.nodup_cons, List.mem_cons, List.not_mem_nil, or_false, not_or, not_false_eq_true, List.nodup_nil, and_true] at this ⊢; omega)⟩
        refine held_cons rfl (fun K hK => ?_) ?_
        · go_simp
          refine hK.out _ _ ?_ (fun hHeld2 => ?_)
          · exact (HT45.out.lay 26 [Value.int .i64 0, .slice none 0 0]).pr 6 rfl
          clear hK K hHeld
          have hHeld := hHeld2
          clear hHeld2
          (try simp only [Act.put, List.setIfInBounds_toArray, List.set_cons_zero, List.set_cons_succ])
          have HT50 := Lib.hid (HT45.out.lay 26 [Value.int .i64 0, .slice none 0 0])
          generalize wt45.alloc (.cells (List.toArray [Value.int .i64 0, .slice none 0 0]) 26) = wt50 at *
          generalize wt45.heap.size = L50 at *
          refine wpAnyH_ready (rs := [5]) (by kernel_rfl) (by simp) ?_
          refine held_cons rfl (fun K hK => ?_) AllReadyH.nil
          go_simp
          refine (HBl.out _).mono ?_; rintro e wt51 ⟨v51, b51, rfl, hv51, hge51, hb51⟩
          obtain rfl := hv51.e
          have HT51 := Lib.hid (HT50.out.cons hb51 hv51.blk hge51)
          clear hv51 hge51 hb51
          (try go_simp)
          refine hK.out _ _ ?_ (fun hHeld2 => ?_)
          · exact HT51.out.pr 7 rfl
          clear hK K hHeld
          have hHeld := hHeld2
          clear hHeld2
          (try simp only [Act.put, List.setIfInBounds_toArray, List.set_cons_zero, List.set_cons_succ])
          refine wpAnyH_ready (rs := [8]) (by kernel_rfl) (by simp) ?_
          refine held_cons rfl (fun K hK => ?_) AllReadyH.nil
          have r0 := (HT51.out.pr 1 rfl).1
          have r1 := (HT51.out.pr 1 rfl).2
          have f0 := (HT51.out.at 1 rfl).frz 0
          have f1 := (HT51.out.at 1 rfl).frz 1
          go_simp
          refine hK.out _ _ ?_ (fun hHeld2 => ?_)
          · exact (HT51.out.two 1 (x := .int .i64 n) (y := .slice (some ⟨b45, 0, none⟩) (wcount n) (wcount n)) rfl).pr 7 rfl
          clear hK K hHeld
          have hHeld := hHeld2
          clear hHeld2
          (try simp only [Act.put, List.setIfInBounds_toArray, List.set_cons_zero, List.set_cons_succ])
          have HT52 := Lib.hid (HT51.out.two 1 (x := .int .i64 n) (y := .slice (some ⟨b45, 0, none⟩) (wcount n) (wcount n)) rfl)
          clear r0 r1 f0 f1
          generalize (wt51.setCell ⟨L50, 0, none⟩ (.int .i64 n)).setCell ⟨L50, 1, none⟩ (.slice (some ⟨b45, 0, none⟩) (wcount n) (wcount n)) = wt52 at *
          refine wpAnyH_ready (rs := [9]) (by kernel_rfl) (by simp) ?_
          refine held_cons rfl (fun K hK => ?_) AllReadyH.nil
          have r0 := (HT52.out.pr 3 rfl).1
          have r1 := (HT52.out.pr 3 rfl).2
          have f0 := (HT52.out.at 3 rfl).frz 0
          have f1 := (HT52.out.at 3 rfl).frz 1
          go_simp
          refine hK.out _ _ ?_ (fun hHeld2 => ?_)
          · exact (HT52.out.two 3 (x := .int .i64 n) (y := .slice (some ⟨b51, 0, none⟩) (wcount n) (wcount n)) rfl).pr 7 rfl
          clear hK K hHeld
          have hHeld := hHeld2
          clear hHeld2
          (try simp only [Act.put, List.setIfInBounds_toArray, List.set_cons_zero, List.set_cons_succ])
          have HT53 := Lib.hid (HT52.out.two 3 (x := .int .i64 n) (y := .slice (some ⟨b51, 0, none⟩) (wcount n) (wcount n)) rfl)
          clear r0 r1 f0 f1
          generalize (wt52.setCell ⟨L44, 0, none⟩ (.int .i64 n)).setCell ⟨L44, 1, none⟩ (.slice (some ⟨b51, 0, none⟩) (wcount n) (wcount n)) = wt53 at *
          refine wpAnyH_done (by kernel_rfl) ?_ _
          go_wp2_with fail
          go_meet
          exact ⟨L50, L44, b45, b51, rfl, rfl, HT53.out.sub (by simp) (by have := HT53.out.nd; simp only [List.set_cons_zero, List.set_cons_succ, List.map_cons, List.map_nil, List.nodup_cons, List.mem_cons, List.not_mem_nil, or_false, not_or, not_false_eq_true, List.nodup_nil, and_true] at this ⊢; omega)⟩
        exact AllReadyH.nil
      refine held_cons rfl (fun K hK => ?_) ?_
      · go_simp
        refine hK.out _ _ ?_ (fun hHeld2 => ?_)
        · exact (HT44.out.lay 26 [Value.int .i64 0, .slice none 0 0]).pr 5 rfl
        clear hK K hHeld
        have hHeld := hHeld2
        clear hHeld2
        (try simp only [Act.put, List.setIfInBounds_toArray, List.set_cons_zero, List.set_cons_succ])
        have HT54 := Lib.hid (HT44.out.lay 26 [Value.int .i64 0, .slice none 0 0])
        generalize wt44.alloc (.cells (List.toArray [Value.int .i64 0, .slice none 0 0]) 26) = wt54 at *
        generalize wt44.heap.size = L54 at *
        refine wpAnyH_ready (rs := [2]) (by kernel_rfl) (by simp) ?_
        refine held_cons rfl (fun K hK => ?_) AllReadyH.nil
        go_simp
        refine (HBl.out _).mono ?_; rintro e wt55 ⟨v55, b55, rfl, hv55, hge55, hb55⟩
        obtain rfl := hv55.e
        have HT55 := Lib.hid (HT54.out.cons hb55 hv55.blk hge55)
        clear hv55 hge55 hb55
        (try go_simp)
        refine hK.out _ _ ?_ (fun hHeld2 => ?_)
        · exact HT55.out.pr 6 rfl
        clear hK K hHeld
        have hHeld := hHeld2
        clear hHeld2
        (try simp only [Act.put, List.setIfInBounds_toArray, List.set_cons_zero, List.set_cons_succ])
        refine wpAnyH_ready (rs := [5]) (by kernel_rfl) (by simp) ?_
        refine held_cons rfl (fun K hK => ?_) AllReadyH.nil
        go_simp
        refine (HBl.out _).mono ?_; rintro e wt56 ⟨v56, b56, rfl, hv56, hge56, hb56⟩
        obtain rfl := hv56.e
        have HT56 := Lib.hid (HT55.out.cons hb56 hv56.blk hge56)
        clear hv56 hge56 hb56
        (try go_simp)
        refine hK.out _ _ ?_ (fun hHeld2 => ?_)
        · exact HT56.out.pr 7 rfl
        clear hK K hHeld
        have hHeld := hHeld2
        clear hHeld2
        (try simp only [Act.put, List.setIfInBounds_toArray, List.set_cons_zero, List.set_cons_succ])
        refine wpAnyH_ready (rs := [8]) (by kernel_rfl) (by simp) ?_
        refine held_cons rfl (fun K hK => ?_) AllReadyH.nil
        have r0 := (HT56.out.pr 2 rfl).1
        have r1 := (HT56.out.pr 2 rfl).2
        have f0 := (HT56.out.at 2 rfl).frz 0
        have f1 := (HT56.out.at 2 rfl).frz 1
        go_simp
        refine hK.out _ _ ?_ (fun hHeld2 => ?_)
        · exact (HT56.out.two 2 (x := .int .i64 n) (y := .slice (some ⟨b55, 0, none⟩) (wcount n) (wcount n)) rfl).pr 7 rfl
        clear hK K hHeld
        have hHeld := hHeld2
        clear hHeld2
        (try simp only [Act.put, List.setIfInBounds_toArray, List.set_cons_zero, List.set_cons_succ])
        have HT57 := Lib.hid (HT56.out.two 2 (x := .int .i64 n) (y := .slice (some ⟨b55, 0, none⟩) (wcount n) (wcount n)) rfl)
        clear r0 r1 f0 f1
        generalize (wt56.setCell ⟨L54, 0, none⟩ (.int .i64 n)).setCell ⟨L54, 1, none⟩ (.slice (some ⟨b55, 0, none⟩) (wcount n) (wcount n)) = wt57 at *
        refine wpAnyH_ready (rs := [9]) (by kernel_rfl) (by simp) ?_
        refine held_cons rfl (fun K hK => ?_) AllReadyH.nil
        have r0 := (HT57.out.pr 3 rfl).1
        have r1 := (HT57.out.pr 3 rfl).2
        have f0 := (HT57.out.at 3 rfl).frz 0
        have f1 := (HT57.out.at 3 rfl).frz 1
        go_simp
        refine hK.out _ _ ?_ (fun hHeld2 => ?_)
        · exact (HT57.out.two 3 (x := .int .i64 n) (y := .slice (some ⟨b56, 0, none⟩) (wcount n) (wcount n)) rfl).pr 7 rfl
        clear hK K hHeld
        have hHeld := hHeld2
        clear hHeld2
        (try simp only [Act.put, List.setIfInBounds_toArray, List.set_cons_zero, List.set_cons_succ])
        have HT58 := Lib.hid (HT57.out.two 3 (x := .int .i64 n) (y := .slice (some ⟨b56, 0, none⟩) (wcount n) (wcount n)) rfl)
        clear r0 r1 f0 f1
        generalize (wt57.setCell ⟨L44, 0, none⟩ (.int .i64 n)).setCell ⟨L44, 1, none⟩ (.slice (some ⟨b56, 0, none⟩) (wcount n) (wcount n)) = wt58 at *
        refine wpAnyH_done (by kernel_rfl) ?_ _
        go_wp2_with fail
        go_meet
        exact ⟨L54, L44, b55, b56, rfl, rfl, HT58.out.sub (by simp) (by have := HT58.out.nd; simp only [List.set_cons_zero, List.set_cons_succ, List.map_cons, List.map_nil, List.nodup_cons, List.mem_cons, List.not_mem_nil, or_false, not_or, not_false_eq_true, List.nodup_nil, and_true] at this ⊢; omega)⟩
      exact AllReadyH.nil
    exact AllReadyH.nil
  case rest =>
    obtain ⟨L6, L7, bq, br, rfl, rfl, hX⟩ := hcut
    have c0 := hX.pr 7 rfl
    have HX0 := Lib.hid hX
    have HBit : Hid (∀ i w', Below w.heap.size w w' → Calls Try.prog 17 #[.agg #[.int .i64 n, .slice pa (wcount n) ca], .int .i64 ((i : Nat) : Int)] w' fun e w'' => e = .returned (.bool (A.testBit i)) ∧ Below w'.heap.size w' w'') := Lib.hid fun i w' hb => by
      have := bit_any (HA.out.below hb) (i : Int); rwa [show bitI A (i : Int) = A.testBit i by simp [bitI]] at this
    have HNt : Hid (∀ w', Below w.heap.size w w' → Calls Try.prog 48 #[.agg #[.int .i64 n, .slice pb (wcount n) cb]] w' (Fresh w' n (notN n B))) := Lib.hid fun w' hb => not_any (HB.out.below hb) HN.out
    have hw0 : IntKind.i64.wrap ((n : Int) - 1) = (n : Int) - 1 := IntWalk.i64_in _ (by omega)
    clear hX HT1 HAny HBl HT
    go_wp2_with fail
    clear c0
    go_loopw [8] (fun iv wr => ∃ k : Nat, k ≤ n ∧ iv = .int .i64 ((k : Int) - 1) ∧ ∃ br Q R, Tr w [(L6, 26, [.int .i64 n, .slice (some ⟨bq, 0, none⟩) (wcount n) (wcount n)]), (L7, 26, [.int .i64 n, .slice (some ⟨br, 0, none⟩) (wcount n) (wcount n)]), (bq, 22, wordsV (wcount n) Q), (br, 22, wordsV (wcount n) R), (w.heap.size + 1 + 1 + 1, 26, [.int .i64 0, .slice none 0 0]), (w.heap.size + 1 + 1, 26, [.int .i64 0, .slice none 0 0]), (w.heap.size + 1, 26, [.int .i64 n, .slice pb (wcount n) cb]), (w.heap.size, 26, [.int .i64 n, .slice pa (wcount n) ca])] wr ∧ Q < 2 ^ (64 * wcount n) ∧ R < 2 ^ n ∧ SP A B k Q R) (fun iv _ => (intOf iv + 1).toNat)
    case atStart => exact ⟨n, Nat.le_refl _, rfl, br, 0, 0, HX0.out, Nat.pow_pos (by decide), Nat.pow_pos (by decide), sp_start HA.out.lt⟩
    case round =>
      obtain ⟨k, hk, rfl, br, Q, R, hX, hQ, hR, hSP⟩ := hrel
      have HX := Lib.hid hX
      have HSP := Lib.hid hSP
      have hQlt := Lib.hid hQ
      by_cases hlt : k = 0
      · subst hlt
        have hR64 : R < 2 ^ (64 * wcount n) := Nat.lt_of_lt_of_le hR (Nat.pow_le_pow_right (by decide) (n_le_words n))
        have HRL := Lib.hid (And.intro hR hR64)
        clear hX hk hSP hQ hR hR64
        go_wp2_with fail
        have HE0 := Lib.hid HX.out.drew
        refine wp_region_held_drew (S := fun w' => (w'.cell? ⟨L6, 0, none⟩ = some (.int .i64 n) ∧ w'.cell? ⟨L6, 1, none⟩ = some (.slice (some ⟨bq, 0, none⟩) (wcount n) (wcount n))) ∧ w'.cell? ⟨L7, 0, none⟩ = some (.int .i64 n) ∧ w'.cell? ⟨L7, 1, none⟩ = some (.slice (some ⟨br, 0, none⟩) (wcount n) (wcount n))) (by kernel_rfl) ⟨HE0.out.pr 0 rfl, HE0.out.pr 1 rfl⟩ (fun hHeld => ?_)
        generalize wr.drew = DE at *
        refine held_take (i := 0) (v := ?_) rfl (by kernel_rfl) (by kernel_rfl) (by kernel_rfl) (fun _ _ _ h => h) (Or.inl ⟨by rfl, ?_⟩) (by assumption) ?_
        rotate_left
        · intro w hSw; (try dsimp only at hSw); go_simp; (try with_reducible rfl)
        (try simp only [Act.put, List.setIfInBounds_toArray, List.set_cons_zero, List.set_cons_succ])
        refine held_take (i := 1) (v := ?_) rfl (by kernel_rfl) (by kernel_rfl) (by kernel_rfl) (fun _ _ _ h => h) (Or.inl ⟨by rfl, ?_⟩) (by assumption) ?_
        rotate_left
        · intro w hSw; (try dsimp only at hSw); go_simp; (try with_reducible rfl)
        (try simp only [Act.put, List.setIfInBounds_toArray, List.set_cons_zero, List.set_cons_succ])
        refine wpAnyH_ready (rs := [2]) (by kernel_rfl) (by simp) ?_
        refine held_cons rfl (fun K hK => ?_) AllReadyH.nil
        have r0 := (HE0.out.pr 5 rfl).1
        have r1 := (HE0.out.pr 5 rfl).2
        have f0 := (HE0.out.at 5 rfl).frz 0
        have f1 := (HE0.out.at 5 rfl).frz 1
        go_simp
        refine hK.out _ _ ?_ (fun hHeld2 => ?_)
        · exact ⟨(HE0.out.two 5 (x := .int .i64 n) (y := .slice (some ⟨bq, 0, none⟩) (wcount n) (wcount n)) rfl).pr 0 rfl, (HE0.out.two 5 (x := .int .i64 n) (y := .slice (some ⟨bq, 0, none⟩) (wcount n) (wcount n)) rfl).pr 1 rfl⟩
        clear hK K hHeld
        have hHeld := hHeld2
        clear hHeld2
        (try simp only [Act.put, List.setIfInBounds_toArray, List.set_cons_zero, List.set_cons_succ])
        have HT3001 := Lib.hid (HE0.out.two 5 (x := .int .i64 n) (y := .slice (some ⟨bq, 0, none⟩) (wcount n) (wcount n)) rfl)
        clear r0 r1 f0 f1
        generalize (DE.setCell ⟨w.heap.size + 1 + 1, 0, none⟩ (.int .i64 n)).setCell ⟨w.heap.size + 1 + 1, 1, none⟩ (.slice (some ⟨bq, 0, none⟩) (wcount n) (wcount n)) = wt3001 at *
        refine wpAnyH_ready (rs := [3]) (by kernel_rfl) (by simp) ?_
        refine held_cons rfl (fun K hK => ?_) AllReadyH.nil
        have r0 := (HT3001.out.pr 4 rfl).1
        have r1 := (HT3001.out.pr 4 rfl).2
        have f0 := (HT3001.out.at 4 rfl).frz 0
        have f1 := (HT3001.out.at 4 rfl).frz 1
        go_simp
        refine hK.out _ _ ?_ (fun hHeld2 => ?_)
        · exact ⟨(HT3001.out.two 4 (x := .int .i64 n) (y := .slice (some ⟨br, 0, none⟩) (wcount n) (wcount n)) rfl).pr 0 rfl, (HT3001.out.two 4 (x := .int .i64 n) (y := .slice (some ⟨br, 0, none⟩) (wcount n) (wcount n)) rfl).pr 1 rfl⟩
        clear hK K hHeld
        have hHeld := hHeld2
        clear hHeld2
        (try simp only [Act.put, List.setIfInBounds_toArray, List.set_cons_zero, List.set_cons_succ])
        have HT3002 := Lib.hid (HT3001.out.two 4 (x := .int .i64 n) (y := .slice (some ⟨br, 0, none⟩) (wcount n) (wcount n)) rfl)
        clear r0 r1 f0 f1
        generalize (wt3001.setCell ⟨w.heap.size + 1 + 1 + 1, 0, none⟩ (.int .i64 n)).setCell ⟨w.heap.size + 1 + 1 + 1, 1, none⟩ (.slice (some ⟨br, 0, none⟩) (wcount n) (wcount n)) = wt3002 at *
        refine wpAnyH_done (by kernel_rfl) ?_ _
        go_wp2_with fail
        have e0 := (HT3002.out.pr 5 rfl).1
        have e1 := (HT3002.out.pr 5 rfl).2
        have e2 := (HT3002.out.pr 4 rfl).1
        have e3 := (HT3002.out.pr 4 rfl).2
        obtain ⟨eq1, eq2⟩ := sp_end HSP.out
        have hq : Q < 2 ^ n := by rw [eq1]; exact Nat.lt_of_le_of_lt (Nat.div_le_self _ _) HA.out.lt
        have v1 := (HT3002.out.vo 2 rfl hQlt.out HA.out.le).vr hq
        have v2 := (HT3002.out.vo 3 rfl HRL.out.2 HA.out.le).vr HRL.out.1
        rw [eq1] at v1
        rw [eq2] at v2
        exact bodyPost_ret (v := .tuple #[vecO n bq, vecO n br]) (by simp [results, Try.results83, go_sem, e0, e1, e2, e3, vecO]) rfl ⟨_, _, rfl, v1, v2, HT3002.out.bel⟩
      · obtain ⟨i, rfl⟩ : ∃ i, k = i + 1 := ⟨k - 1, by omega⟩
        have hin : i < n := by omega
        have he : ((i + 1 : Nat) : Int) - 1 = (i : Int) := by omega
        rw [he]
        have HIN := Lib.hid hin
        have hwr : IntKind.i64.wrap ((i : Int) - 1) = (i : Int) - 1 := IntWalk.i64_in _ (by omega)
        have hR64 : R < 2 ^ (64 * wcount n) := Nat.lt_of_lt_of_le hR (Nat.pow_le_pow_right (by decide) (n_le_words n))
        have HNeg := Lib.hid (negative_any ((hX.vo 3 rfl hR64 HA.out.le).vr hR))
        have HRL := Lib.hid (And.intro hR hR64)
        have c7 := hX.pr 1 rfl
        have HST := Lib.hid (sp_step HN.out (by have := H0.out; omega) HB.out.lt hSP)
        dsimp only [vecO] at HNeg
        clear hX hk hSP hQ hR hR64 hlt he hin
        go_wp2_with fail
        refine HNeg.out.mono ?_; rintro e wu1 ⟨rfl, hb1⟩
        have HU1 := Lib.hid (HX.out.below hb1)
        have c7 := HU1.out.pr 1 rfl
        have HUp := Lib.hid (up_any ((HU1.out.vo 3 rfl HRL.out.2 HA.out.le).vr HRL.out.1) 1 HN.out)
        dsimp only [vecO] at HUp
        clear hb1
        generalize hov : bitI R ((n : Int) - 1) = over at *
        have hov2 : topB n R = over := hov
        rw [hov2] at HST
        clear hov hov2
        go_wp2_with fail
        refine HUp.out.mono ?_; rintro e wu2 ⟨v5, b5, rfl, hv5, hge5, hb5⟩
        obtain rfl := hv5.e
        have HU2 := Lib.hid (HU1.out.swap 3 hb5 hv5.blk hge5)
        have hlt2 := Lib.hid hv5.lt
        have c7 := (HU2.out.pr 1 rfl)
        have f0 := (HU2.out.at 1 rfl).frz 0
        have f1 := (HU2.out.at 1 rfl).frz 1
        clear hv5 hge5 hb5
        go_wp2_with fail
        have HU3 := Lib.hid (HU2.out.two 1 (x := .int .i64 n) (y := .slice (some ⟨b5, 0, none⟩) (wcount n) (wcount n)) rfl)
        generalize (wu2.setCell ⟨L7, 0, none⟩ (.int .i64 n)).setCell ⟨L7, 1, none⟩ (.slice (some ⟨b5, 0, none⟩) (wcount n) (wcount n)) = wu3 at *
        clear c7 f0 f1
        have hlt2 := And.intro hlt2.out HA.out.le
        have HS0 := Lib.hid HU3.out.drew
        refine wp_region_held_drew (S := fun w' => (w'.cell? ⟨L7, 0, none⟩ = some (.int .i64 n) ∧ w'.cell? ⟨L7, 1, none⟩ = some (.slice (some ⟨b5, 0, none⟩) (wcount n) (wcount n))) ∧ w'.cell? ⟨w.heap.size, 0, none⟩ = some (.int .i64 n) ∧ w'.cell? ⟨w.heap.size, 1, none⟩ = some (.slice pa (wcount n) ca)) (by kernel_rfl) ⟨HS0.out.pr 1 rfl, HS0.out.pr 7 rfl⟩ (fun hHeld => ?_)
        generalize wu3.drew = DS at *
        refine held_take (i := 0) (v := ?_) rfl (by kernel_rfl) (by kernel_rfl) (by kernel_rfl) (fun _ _ _ h => h) (Or.inl ⟨by rfl, ?_⟩) (by assumption) ?_
        rotate_left
        · intro w hSw; (try dsimp only at hSw); go_simp; (try with_reducible rfl)
        (try simp only [Act.put, List.setIfInBounds_toArray, List.set_cons_zero, List.set_cons_succ])
        refine held_take (i := 1) (v := ?_) rfl (by kernel_rfl) (by kernel_rfl) (by kernel_rfl) (fun _ _ _ h => h) (Or.inl ⟨by rfl, ?_⟩) (by assumption) ?_
        rotate_left
        · intro w hSw; (try dsimp only at hSw); go_simp; (try with_reducible rfl)
        (try simp only [Act.put, List.setIfInBounds_toArray, List.set_cons_zero, List.set_cons_succ])
        refine held_take (i := 2) (v := ?_) rfl (by kernel_rfl) (by kernel_rfl) (by kernel_rfl) (fun _ _ _ h => h) (Or.inl ⟨by rfl, ?_⟩) (by assumption) ?_
        rotate_left
        · intro w hSw; (try dsimp only at hSw); go_simp; (try with_reducible rfl)
        (try simp only [Act.put, List.setIfInBounds_toArray, List.set_cons_zero, List.set_cons_succ])
        refine wpAnyH_ready (rs := [3]) (by kernel_rfl) (by simp) ?_
        refine held_cons rfl (fun K hK => ?_) AllReadyH.nil
        go_simp
        refine (HBit.out i _ HS0.out.bel).mono ?_; rintro e wt1001 ⟨rfl, hb1001⟩
        have HT1001 := Lib.hid (HS0.out.below hb1001)
        clear hb1001
        (try go_simp)
        refine hK.out _ _ ?_ (fun hHeld2 => ?_)
        · exact ⟨HT1001.out.pr 1 rfl, HT1001.out.pr 7 rfl⟩
        clear hK K hHeld
        have hHeld := hHeld2
        clear hHeld2
        (try simp only [Act.put, List.setIfInBounds_toArray, List.set_cons_zero, List.set_cons_succ])
        refine wpAnyH_ready (rs := [4]) (by kernel_rfl) (by simp) ?_
        refine held_cons rfl (fun K hK => ?_) AllReadyH.nil
        go_simp
        refine (set_any (HT1001.out.vo 3 rfl hlt2.1 hlt2.2) 0 (A.testBit i) HN.out).mono ?_; rintro e wt1002 ⟨rfl, hv1002, hg1002⟩
        have HT1002 := Lib.hid (HT1001.out.upd 3 rfl hg1002 hv1002.blk)
        clear hv1002 hg1002
        (try go_simp)
        refine hK.out _ _ ?_ (fun hHeld2 => ?_)
        · exact ⟨HT1002.out.pr 1 rfl, HT1002.out.pr 7 rfl⟩
        clear hK K hHeld
        have hHeld := hHeld2
        clear hHeld2
        (try simp only [Act.put, List.setIfInBounds_toArray, List.set_cons_zero, List.set_cons_succ])
        refine wpAnyH_done (by kernel_rfl) ?_ _
        have hR2lt := setB_lt (A.testBit i) (ofB_lt (upF R 1) n) HN.out
        have hlt3 : setB (ofB (upF R 1) n) 0 (A.testBit i) < 2 ^ (64 * wcount n) := Nat.lt_of_lt_of_le hR2lt (Nat.pow_le_pow_right (by decide) (n_le_words n))
        have HR2 := Lib.hid hR2lt
        have hlt3 := Lib.hid hlt3
        have hltQ := hQlt.out
        have HLess := Lib.hid (fun w' (h1 : VO w' (vecO n b5) n (setB (ofB (upF R 1) n) 0 (A.testBit i)) b5) (hb : Below w.heap.size w w') => less_any (h1.vr HR2.out) (HB.out.below hb))
        dsimp only [vecO] at HLess
        cases over
        · have HLs := Lib.hid (HLess.out _ (HT1002.out.vo 3 rfl hlt3.out HA.out.le) HT1002.out.bel)
          have c7 := HT1002.out.pr 1 rfl
          have cb := HT1002.out.pr 6 rfl
          obtain ⟨q, hq⟩ : ∃ q, decide (setB (ofB (upF R 1) n) 0 (A.testBit i) < B) = q := ⟨_, rfl⟩
          rw [hq] at HLs HST
          clear hq
          cases q
          · go_upto_region 11 with (go_at_call 87; refine HLs.out.mono ?_; rintro e wl ⟨rfl, hbl⟩; have HL := Lib.hid (HT1002.out.below hbl); clear hbl)
            have HSTEP := Lib.hid (HST.out.1 rfl)
            have hlt3 := hlt3.out
            clear c7 cb
            have HP0 := Lib.hid HL.out.drew
            refine wp_region_held_drew (S := fun w' => w'.cell? ⟨w.heap.size + 1, 0, none⟩ = some (.int .i64 n) ∧ w'.cell? ⟨w.heap.size + 1, 1, none⟩ = some (.slice pb (wcount n) cb)) (by kernel_rfl) (HP0.out.pr 6 rfl) (fun hHeld => ?_)
            generalize wl.drew = DP at *
            refine held_take (i := 1) (v := ?_) rfl (by kernel_rfl) (by kernel_rfl) (by kernel_rfl) (fun _ _ _ h => h) (Or.inl ⟨by rfl, ?_⟩) (by assumption) ?_
            rotate_left
            · intro w hSw; (try dsimp only at hSw); go_simp; (try with_reducible rfl)
            (try simp only [Act.put, List.setIfInBounds_toArray, List.set_cons_zero, List.set_cons_succ])
            refine wpAnyH_ready (rs := [0, 2]) (by kernel_rfl) (by simp) ?_
            refine held_cons rfl (fun K hK => ?_) ?_
            · have r0 := (HP0.out.pr 1 rfl).1
              have r1 := (HP0.out.pr 1 rfl).2
              go_simp
              refine hK.out _ _ ?_ (fun hHeld2 => ?_)
              · exact HP0.out.pr 6 rfl
              clear hK K hHeld
              have hHeld := hHeld2
              clear hHeld2
              (try simp only [Act.put, List.setIfInBounds_toArray, List.set_cons_zero, List.set_cons_succ])
              clear r0 r1
              refine wpAnyH_ready (rs := [2]) (by kernel_rfl) (by simp) ?_
              refine held_cons rfl (fun K hK => ?_) AllReadyH.nil
              go_simp
              refine (HNt.out _ HP0.out.bel).mono ?_; rintro e wt2002 ⟨v2002, b2002, rfl, hv2002, hge2002, hb2002⟩
              have VN := Lib.hid (hv2002.vr (notN_lt _ _))
              have HT2002 := Lib.hid (HP0.out.below hb2002)
              clear hv2002 hge2002 hb2002
              (try go_simp)
              refine hK.out _ _ ?_ (fun hHeld2 => ?_)
              · exact HT2002.out.pr 6 rfl
              clear hK K hHeld
              have hHeld := hHeld2
              clear hHeld2
              (try simp only [Act.put, List.setIfInBounds_toArray, List.set_cons_zero, List.set_cons_succ])
              refine wpAnyH_ready (rs := [3]) (by kernel_rfl) (by simp) ?_
              refine held_cons rfl (fun K hK => ?_) AllReadyH.nil
              go_simp
              refine (plus_any (HT2002.out.vo 3 rfl hlt3 HA.out.le |>.vr HR2.out) VN.out HN.out 1 (Nat.le_refl _)).mono ?_; rintro e wt2003 ⟨v2003, b2003, rfl, hv2003, hge2003, hb2003⟩
              obtain rfl := hv2003.e
              have HT2003 := Lib.hid (HT2002.out.swap 3 hb2003 hv2003.blk hge2003)
              clear hv2003 hge2003 hb2003
              (try go_simp)
              refine hK.out _ _ ?_ (fun hHeld2 => ?_)
              · exact HT2003.out.pr 6 rfl
              clear hK K hHeld
              have hHeld := hHeld2
              clear hHeld2
              (try simp only [Act.put, List.setIfInBounds_toArray, List.set_cons_zero, List.set_cons_succ])
              refine wpAnyH_ready (rs := [4]) (by kernel_rfl) (by simp) ?_
              refine held_cons rfl (fun K hK => ?_) AllReadyH.nil
              have r0 := (HT2003.out.pr 1 rfl).1
              have r1 := (HT2003.out.pr 1 rfl).2
              have f0 := (HT2003.out.at 1 rfl).frz 0
              have f1 := (HT2003.out.at 1 rfl).frz 1
              go_simp
              refine hK.out _ _ ?_ (fun hHeld2 => ?_)
              · exact (HT2003.out.two 1 (x := .int .i64 n) (y := .slice (some ⟨b2003, 0, none⟩) (wcount n) (wcount n)) rfl).pr 6 rfl
              clear hK K hHeld
              have hHeld := hHeld2
              clear hHeld2
              (try simp only [Act.put, List.setIfInBounds_toArray, List.set_cons_zero, List.set_cons_succ])
              have HT2004 := Lib.hid (HT2003.out.two 1 (x := .int .i64 n) (y := .slice (some ⟨b2003, 0, none⟩) (wcount n) (wcount n)) rfl)
              clear r0 r1 f0 f1
              generalize (wt2003.setCell ⟨L7, 0, none⟩ (.int .i64 n)).setCell ⟨L7, 1, none⟩ (.slice (some ⟨b2003, 0, none⟩) (wcount n) (wcount n)) = wt2004 at *
              refine wpAnyH_done (by kernel_rfl) ?_ _
              have c6 := HT2004.out.pr 0 rfl
              have HQ := Lib.hid (set_any (HT2004.out.vo 2 rfl hltQ HA.out.le) i true HIN.out)
              go_wp2_with fail
              refine HQ.out.mono ?_; rintro e wz ⟨rfl, hvz, hgz⟩
              have HZ := Lib.hid (HT2004.out.upd 2 rfl hgz hvz.blk)
              clear hvz hgz c6 HQ
              go_wp2_with fail
              have hq1 : setB Q i true < 2 ^ (64 * wcount n) := setB_lt true hQlt.out (by have := n_le_words n; have := HIN.out; omega)
              have hq2 : (setB (ofB (upF R 1) n) 0 (A.testBit i) + notN n B + 1) % 2 ^ n < 2 ^ n := Nat.mod_lt _ (Nat.pow_pos (by decide))
              go_roundw
              case rel => exact ⟨i, Nat.le_of_lt HIN.out, by go_num, b2003, _, _, HZ.out, hq1, hq2, HSTEP.out⟩
              case measure => simp [intOf]
            refine held_cons rfl (fun K hK => ?_) ?_
            · go_simp
              refine (HNt.out _ HP0.out.bel).mono ?_; rintro e wt2005 ⟨v2005, b2005, rfl, hv2005, hge2005, hb2005⟩
              have VN := Lib.hid (hv2005.vr (notN_lt _ _))
              have HT2005 := Lib.hid (HP0.out.below hb2005)
              clear hv2005 hge2005 hb2005
              (try go_simp)
              refine hK.out _ _ ?_ (fun hHeld2 => ?_)
              · exact HT2005.out.pr 6 rfl
              clear hK K hHeld
              have hHeld := hHeld2
              clear hHeld2
              (try simp only [Act.put, List.setIfInBounds_toArray, List.set_cons_zero, List.set_cons_succ])
              refine wpAnyH_ready (rs := [0]) (by kernel_rfl) (by simp) ?_
              refine held_cons rfl (fun K hK => ?_) AllReadyH.nil
              have r0 := (HT2005.out.pr 1 rfl).1
              have r1 := (HT2005.out.pr 1 rfl).2
              go_simp
              refine hK.out _ _ ?_ (fun hHeld2 => ?_)
              · exact HT2005.out.pr 6 rfl
              clear hK K hHeld
              have hHeld := hHeld2
              clear hHeld2
              (try simp only [Act.put, List.setIfInBounds_toArray, List.set_cons_zero, List.set_cons_succ])
              clear r0 r1
              refine wpAnyH_ready (rs := [3]) (by kernel_rfl) (by simp) ?_
              refine held_cons rfl (fun K hK => ?_) AllReadyH.nil
              go_simp
              refine (plus_any (HT2005.out.vo 3 rfl hlt3 HA.out.le |>.vr HR2.out) VN.out HN.out 1 (Nat.le_refl _)).mono ?_; rintro e wt2007 ⟨v2007, b2007, rfl, hv2007, hge2007, hb2007⟩
              obtain rfl := hv2007.e
              have HT2007 := Lib.hid (HT2005.out.swap 3 hb2007 hv2007.blk hge2007)
              clear hv2007 hge2007 hb2007
              (try go_simp)
              refine hK.out _ _ ?_ (fun hHeld2 => ?_)
              · exact HT2007.out.pr 6 rfl
              clear hK K hHeld
              have hHeld := hHeld2
              clear hHeld2
              (try simp only [Act.put, List.setIfInBounds_toArray, List.set_cons_zero, List.set_cons_succ])
              refine wpAnyH_ready (rs := [4]) (by kernel_rfl) (by simp) ?_
              refine held_cons rfl (fun K hK => ?_) AllReadyH.nil
              have r0 := (HT2007.out.pr 1 rfl).1
              have r1 := (HT2007.out.pr 1 rfl).2
              have f0 := (HT2007.out.at 1 rfl).frz 0
              have f1 := (HT2007.out.at 1 rfl).frz 1
              go_simp
              refine hK.out _ _ ?_ (fun hHeld2 => ?_)
              · exact (HT2007.out.two 1 (x := .int .i64 n) (y := .slice (some ⟨b2007, 0, none⟩) (wcount n) (wcount n)) rfl).pr 6 rfl
              clear hK K hHeld
              have hHeld := hHeld2
              clear hHeld2
              (try simp only [Act.put, List.setIfInBounds_toArray, List.set_cons_zero, List.set_cons_succ])
              have HT2008 := Lib.hid (HT2007.out.two 1 (x := .int .i64 n) (y := .slice (some ⟨b2007, 0, none⟩) (wcount n) (wcount n)) rfl)
              clear r0 r1 f0 f1
              generalize (wt2007.setCell ⟨L7, 0, none⟩ (.int .i64 n)).setCell ⟨L7, 1, none⟩ (.slice (some ⟨b2007, 0, none⟩) (wcount n) (wcount n)) = wt2008 at *
              refine wpAnyH_done (by kernel_rfl) ?_ _
              have c6 := HT2008.out.pr 0 rfl
              have HQ := Lib.hid (set_any (HT2008.out.vo 2 rfl hltQ HA.out.le) i true HIN.out)
              go_wp2_with fail
              refine HQ.out.mono ?_; rintro e wz ⟨rfl, hvz, hgz⟩
              have HZ := Lib.hid (HT2008.out.upd 2 rfl hgz hvz.blk)
              clear hvz hgz c6 HQ
              go_wp2_with fail
              have hq1 : setB Q i true < 2 ^ (64 * wcount n) := setB_lt true hQlt.out (by have := n_le_words n; have := HIN.out; omega)
              have hq2 : (setB (ofB (upF R 1) n) 0 (A.testBit i) + notN n B + 1) % 2 ^ n < 2 ^ n := Nat.mod_lt _ (Nat.pow_pos (by decide))
              go_roundw
              case rel => exact ⟨i, Nat.le_of_lt HIN.out, by go_num, b2007, _, _, HZ.out, hq1, hq2, HSTEP.out⟩
              case measure => simp [intOf]
            exact AllReadyH.nil
          · go_wp2_with (go_at_call 87; refine HLs.out.mono ?_; rintro e wl ⟨rfl, hbl⟩; have HL := Lib.hid (HT1002.out.below hbl); clear hbl)
            go_roundw
            case rel => exact ⟨i, Nat.le_of_lt HIN.out, by go_num, b5, _, _, HL.out, hQlt.out, HR2.out, HST.out.2 rfl⟩
            case measure => simp [intOf]
        · go_upto_region 11 with fail
          have HSTEP := Lib.hid (HST.out.1 rfl)
          have hlt3 := hlt3.out
          have HP0 := Lib.hid HT1002.out.drew
          refine wp_region_held_drew (S := fun w' => w'.cell? ⟨w.heap.size + 1, 0, none⟩ = some (.int .i64 n) ∧ w'.cell? ⟨w.heap.size + 1, 1, none⟩ = some (.slice pb (wcount n) cb)) (by kernel_rfl) (HP0.out.pr 6 rfl) (fun hHeld => ?_)
          generalize wt1002.drew = DP at *
          refine held_take (i := 1) (v := ?_) rfl (by kernel_rfl) (by kernel_rfl) (by kernel_rfl) (fun _ _ _ h => h) (Or.inl ⟨by rfl, ?_⟩) (by assumption) ?_
          rotate_left
          · intro w hSw; (try dsimp only at hSw); go_simp; (try with_reducible rfl)
          (try simp only [Act.put, List.setIfInBounds_toArray, List.set_cons_zero, List.set_cons_succ])
          refine wpAnyH_ready (rs := [0, 2]) (by kernel_rfl) (by simp) ?_
          refine held_cons rfl (fun K hK => ?_) ?_
          · have r0 := (HP0.out.pr 1 rfl).1
            have r1 := (HP0.out.pr 1 rfl).2
            go_simp
            refine hK.out _ _ ?_ (fun hHeld2 => ?_)
            · exact HP0.out.pr 6 rfl
            clear hK K hHeld
            have hHeld := hHeld2
            clear hHeld2
            (try simp only [Act.put, List.setIfInBounds_toArray, List.set_cons_zero, List.set_cons_succ])
            clear r0 r1
            refine wpAnyH_ready (rs := [2]) (by kernel_rfl) (by simp) ?_
            refine held_cons rfl (fun K hK => ?_) AllReadyH.nil
            go_simp
            refine (HNt.out _ HP0.out.bel).mono ?_; rintro e wt2502 ⟨v2502, b2502, rfl, hv2502, hge2502, hb2502⟩
            have VN := Lib.hid (hv2502.vr (notN_lt _ _))
            have HT2502 := Lib.hid (HP0.out.below hb2502)
            clear hv2502 hge2502 hb2502
            (try go_simp)
            refine hK.out _ _ ?_ (fun hHeld2 => ?_)
            · exact HT2502.out.pr 6 rfl
            clear hK K hHeld
            have hHeld := hHeld2
            clear hHeld2
            (try simp only [Act.put, List.setIfInBounds_toArray, List.set_cons_zero, List.set_cons_succ])
            refine wpAnyH_ready (rs := [3]) (by kernel_rfl) (by simp) ?_
            refine held_cons rfl (fun K hK => ?_) AllReadyH.nil
            go_simp
            refine (plus_any (HT2502.out.vo 3 rfl hlt3 HA.out.le |>.vr HR2.out) VN.out HN.out 1 (Nat.le_refl _)).mono ?_; rintro e wt2503 ⟨v2503, b2503, rfl, hv2503, hge2503, hb2503⟩
            obtain rfl := hv2503.e
            have HT2503 := Lib.hid (HT2502.out.swap 3 hb2503 hv2503.blk hge2503)
            clear hv2503 hge2503 hb2503
            (try go_simp)
            refine hK.out _ _ ?_ (fun hHeld2 => ?_)
            · exact HT2503.out.pr 6 rfl
            clear hK K hHeld
            have hHeld := hHeld2
            clear hHeld2
            (try simp only [Act.put, List.setIfInBounds_toArray, List.set_cons_zero, List.set_cons_succ])
            refine wpAnyH_ready (rs := [4]) (by kernel_rfl) (by simp) ?_
            refine held_cons rfl (fun K hK => ?_) AllReadyH.nil
            have r0 := (HT2503.out.pr 1 rfl).1
            have r1 := (HT2503.out.pr 1 rfl).2
            have f0 := (HT2503.out.at 1 rfl).frz 0
            have f1 := (HT2503.out.at 1 rfl).frz 1
            go_simp
            refine hK.out _ _ ?_ (fun hHeld2 => ?_)
            · exact (HT2503.out.two 1 (x := .int .i64 n) (y := .slice (some ⟨b2503, 0, none⟩) (wcount n) (wcount n)) rfl).pr 6 rfl
            clear hK K hHeld
            have hHeld := hHeld2
            clear hHeld2
            (try simp only [Act.put, List.setIfInBounds_toArray, List.set_cons_zero, List.set_cons_succ])
            have HT2504 := Lib.hid (HT2503.out.two 1 (x := .int .i64 n) (y := .slice (some ⟨b2503, 0, none⟩) (wcount n) (wcount n)) rfl)
            clear r0 r1 f0 f1
            generalize (wt2503.setCell ⟨L7, 0, none⟩ (.int .i64 n)).setCell ⟨L7, 1, none⟩ (.slice (some ⟨b2503, 0, none⟩) (wcount n) (wcount n)) = wt2504 at *
            refine wpAnyH_done (by kernel_rfl) ?_ _
            have c6 := HT2504.out.pr 0 rfl
            have HQ := Lib.hid (set_any (HT2504.out.vo 2 rfl hltQ HA.out.le) i true HIN.out)
            go_wp2_with fail
            refine HQ.out.mono ?_; rintro e wz ⟨rfl, hvz, hgz⟩
            have HZ := Lib.hid (HT2504.out.upd 2 rfl hgz hvz.blk)
            clear hvz hgz c6 HQ
            go_wp2_with fail
            have hq1 : setB Q i true < 2 ^ (64 * wcount n) := setB_lt true hQlt.out (by have := n_le_words n; have := HIN.out; omega)
            have hq2 : (setB (ofB (upF R 1) n) 0 (A.testBit i) + notN n B + 1) % 2 ^ n < 2 ^ n := Nat.mod_lt _ (Nat.pow_pos (by decide))
            go_roundw
            case rel => exact ⟨i, Nat.le_of_lt HIN.out, by go_num, b2503, _, _, HZ.out, hq1, hq2, HSTEP.out⟩
            case measure => simp [intOf]
          refine held_cons rfl (fun K hK => ?_) ?_
          · go_simp
            refine (HNt.out _ HP0.out.bel).mono ?_; rintro e wt2505 ⟨v2505, b2505, rfl, hv2505, hge2505, hb2505⟩
            have VN := Lib.hid (hv2505.vr (notN_lt _ _))
            have HT2505 := Lib.hid (HP0.out.below hb2505)
            clear hv2505 hge2505 hb2505
            (try go_simp)
            refine hK.out _ _ ?_ (fun hHeld2 => ?_)
            · exact HT2505.out.pr 6 rfl
            clear hK K hHeld
            have hHeld := hHeld2
            clear hHeld2
            (try simp only [Act.put, List.setIfInBounds_toArray, List.set_cons_zero, List.set_cons_succ])
            refine wpAnyH_ready (rs := [0]) (by kernel_rfl) (by simp) ?_
            refine held_cons rfl (fun K hK => ?_) AllReadyH.nil
            have r0 := (HT2505.out.pr 1 rfl).1
            have r1 := (HT2505.out.pr 1 rfl).2
            go_simp
            refine hK.out _ _ ?_ (fun hHeld2 => ?_)
            · exact HT2505.out.pr 6 rfl
            clear hK K hHeld
            have hHeld := hHeld2
            clear hHeld2
            (try simp only [Act.put, List.setIfInBounds_toArray, List.set_cons_zero, List.set_cons_succ])
            clear r0 r1
            refine wpAnyH_ready (rs := [3]) (by kernel_rfl) (by simp) ?_
            refine held_cons rfl (fun K hK => ?_) AllReadyH.nil
            go_simp
            refine (plus_any (HT2505.out.vo 3 rfl hlt3 HA.out.le |>.vr HR2.out) VN.out HN.out 1 (Nat.le_refl _)).mono ?_; rintro e wt2507 ⟨v2507, b2507, rfl, hv2507, hge2507, hb2507⟩
            obtain rfl := hv2507.e
            have HT2507 := Lib.hid (HT2505.out.swap 3 hb2507 hv2507.blk hge2507)
            clear hv2507 hge2507 hb2507
            (try go_simp)
            refine hK.out _ _ ?_ (fun hHeld2 => ?_)
            · exact HT2507.out.pr 6 rfl
            clear hK K hHeld
            have hHeld := hHeld2
            clear hHeld2
            (try simp only [Act.put, List.setIfInBounds_toArray, List.set_cons_zero, List.set_cons_succ])
            refine wpAnyH_ready (rs := [4]) (by kernel_rfl) (by simp) ?_
            refine held_cons rfl (fun K hK => ?_) AllReadyH.nil
            have r0 := (HT2507.out.pr 1 rfl).1
            have r1 := (HT2507.out.pr 1 rfl).2
            have f0 := (HT2507.out.at 1 rfl).frz 0
            have f1 := (HT2507.out.at 1 rfl).frz 1
            go_simp
            refine hK.out _ _ ?_ (fun hHeld2 => ?_)
            · exact (HT2507.out.two 1 (x := .int .i64 n) (y := .slice (some ⟨b2507, 0, none⟩) (wcount n) (wcount n)) rfl).pr 6 rfl
            clear hK K hHeld
            have hHeld := hHeld2
            clear hHeld2
            (try simp only [Act.put, List.setIfInBounds_toArray, List.set_cons_zero, List.set_cons_succ])
            have HT2508 := Lib.hid (HT2507.out.two 1 (x := .int .i64 n) (y := .slice (some ⟨b2507, 0, none⟩) (wcount n) (wcount n)) rfl)
            clear r0 r1 f0 f1
            generalize (wt2507.setCell ⟨L7, 0, none⟩ (.int .i64 n)).setCell ⟨L7, 1, none⟩ (.slice (some ⟨b2507, 0, none⟩) (wcount n) (wcount n)) = wt2508 at *
            refine wpAnyH_done (by kernel_rfl) ?_ _
            have c6 := HT2508.out.pr 0 rfl
            have HQ := Lib.hid (set_any (HT2508.out.vo 2 rfl hltQ HA.out.le) i true HIN.out)
            go_wp2_with fail
            refine HQ.out.mono ?_; rintro e wz ⟨rfl, hvz, hgz⟩
            have HZ := Lib.hid (HT2508.out.upd 2 rfl hgz hvz.blk)
            clear hvz hgz c6 HQ
            go_wp2_with fail
            have hq1 : setB Q i true < 2 ^ (64 * wcount n) := setB_lt true hQlt.out (by have := n_le_words n; have := HIN.out; omega)
            have hq2 : (setB (ofB (upF R 1) n) 0 (A.testBit i) + notN n B + 1) % 2 ^ n < 2 ^ n := Nat.mod_lt _ (Nat.pow_pos (by decide))
            go_roundw
            case rel => exact ⟨i, Nat.le_of_lt HIN.out, by go_num, b2507, _, _, HZ.out, hq1, hq2, HSTEP.out⟩
            case measure => simp [intOf]
          exact AllReadyH.nil
end Go.Proofs.Ytmimafbedbohiaa
