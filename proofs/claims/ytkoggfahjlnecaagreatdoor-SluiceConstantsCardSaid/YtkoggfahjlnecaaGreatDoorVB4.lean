
import Derived.Test.YtkoggfahjlnecaaGreatDoorVB3
namespace Go.Proofs.YtkoggfahjlnecaaGreatDoor
set_option linter.unusedVariables false
open Go.RowKit
set_option maxRecDepth 100000 in
set_option maxHeartbeats 2000000 in
theorem eqwords_any {w : World} {va vb : Value} {m A B : Nat} (ra : RO w va 1 m (wordsV m A)) (rb : RO w vb 1 m (wordsV m B)) (hm : m ≤ 100) (hA : A < 2 ^ (64 * m)) (hB : B < 2 ^ (64 * m)) :
    Calls Tryz.prog 26 #[va, vb] w fun e w' => e = .returned (.bool (decide (A = B))) ∧ Below w.heap.size w w' := by
  obtain ⟨pa, ca, rfl⟩ := ra.form
  obtain ⟨pb, cb, rfl⟩ := rb.form
  have hmi : (m : Int) ≤ 100 := by omega
  have HX := Lib.hid (words_ext hA hB)
  have HR := Lib.hid (And.intro ra rb)
  clear ra rb hm hA hB
  go_enter Tryz.func26, Tryz.ntmps26
  go_wp2_with fail
  go_loopw [13] (fun i wr => ∃ k : Nat, k ≤ m ∧ i = .int .i64 k ∧ (∀ j, j < k → word A j = word B j) ∧ Below w.heap.size w wr) (fun i _ => m - (intOf i).toNat)
  case atStart => exact ⟨0, Nat.zero_le _, rfl, fun j hj => absurd hj (Nat.not_lt_zero _), Below.refl _ _⟩
  case round =>
    obtain ⟨k, hk, rfl, hno, hbel⟩ := hrel
    have HN := Lib.hid (And.intro hno hbel)
    by_cases hlt : k < m
    · have ra := HR.out.1.below hbel
      have rb := HR.out.2.below hbel
      obtain ⟨ba, oa, rfl⟩ := ra.sl (wordsV_at hlt)
      obtain ⟨bb, ob, rfl⟩ := rb.sl (wordsV_at hlt)
      have fa := ra.cell (wordsV_at hlt)
      have fb := rb.cell (wordsV_at hlt)
      have hki : (k : Int) < m := by omega
      have HW := Lib.hid (show (fun j => word A j = word B j) k ↔ word A k = word B k from Iff.rfl)
      generalize word A k = wa at *
      generalize word B k = wb at *
      clear hno hbel ra rb
      by_cases hne : wa = wb
      · have hne' : ((wa : Int) != (wb : Int)) = false := by simp [hne]
        have HE := Lib.hid (HW.out.2 hne)
        clear hne
        go_wp2_with fail
        go_quiet (fail)
        go_wp2_with fail
        go_roundw
        case rel => exact ⟨k + 1, by omega, by go_num, fun j hj => by
                      by_cases e : j = k
                      · subst e; exact HE.out
                      · exact HN.out.1 j (by omega), HN.out.2.trans (below_drewN _)⟩
        case measure => simp [intOf]; omega
      · have hne' : ((wa : Int) != (wb : Int)) = true := by simp; omega
        have HE := Lib.hid (fun h => hne (HW.out.1 h))
        clear hne
        go_wp2_with fail
        go_quiet (fail)
        go_wp2_with fail
        go_ret
        have : decide (A = B) = false := by
          rw [decide_eq_false_iff_not]
          intro h
          exact HE.out (by subst h; rfl)
        exact ⟨by rw [this]; rfl, HN.out.2.trans (below_drewN _)⟩
    · obtain rfl : k = m := by omega
      have hAB := HX.out hno
      have HAB := Lib.hid hAB
      clear hno hbel hlt hAB
      go_wp2_with fail
      go_ret
      exact ⟨by rw [decide_eq_true HAB.out]; rfl, HN.out.2⟩
theorem vr64 {w v n x} (h : VR w v n x) : x < 2 ^ (64 * wcount n) := Nat.lt_of_lt_of_le h.lt (Nat.pow_le_pow_right (by decide) (n_le_words n))
set_option maxRecDepth 100000 in
set_option maxHeartbeats 2000000 in
theorem equal_any {w : World} {va vb : Value} {n m A B : Nat} (hA : VR w va n A) (hB : VR w vb m B) : Calls Tryz.prog 12 #[va, vb] w fun e w' => e = .returned (.bool (decide (n = m ∧ A = B))) ∧ Below w.heap.size w w' := by
  have hni : (n : Int) ≤ 128 := by have := hA.le; omega
  have hmi : (m : Int) ≤ 128 := by have := hB.le; omega
  by_cases hnm : n = m
  · subst hnm
    have h1 := vr64 hA
    have h2 := vr64 hB
    obtain ⟨pa, ca, rfl, ra⟩ := hA.ex
    obtain ⟨pb, cb, rfl, rb⟩ := hB.ex
    have hbel : ∀ o1 o2, Below w.heap.size w ((w.alloc o1).alloc o2) := fun o1 o2 => (Below.new _ _).alloc (by simp) _
    have HE := Lib.hid (fun o1 o2 => eqwords_any (ra.below (hbel o1 o2)) (rb.below (hbel o1 o2)) (by unfold wcount; have := hA.le; omega) h1 h2)
    have HB := Lib.hid hbel
    have hd : decide (n = n ∧ A = B) = decide (A = B) := by simp
    rw [hd]
    clear hA hB ra rb h1 h2 hbel hd
    go_enter Tryz.func12, Tryz.ntmps12
    go_wp2_with fail
    refine (HE.out _ _).mono ?_; rintro e w1 ⟨rfl, hb⟩
    have HH := Lib.hid ((HB.out _ _).trans (hb.mono (by simp; omega)))
    clear hb
    go_wp2_with fail
    go_ret
    exact ⟨rfl, HH.out⟩
  · have hd : decide (n = m ∧ A = B) = false := by simp [hnm]
    have hne : ((n : Int) == (m : Int)) = false := by simp; omega
    rw [hd]
    obtain ⟨pa, ca, rfl, ra⟩ := hA.ex
    obtain ⟨pb, cb, rfl, rb⟩ := hB.ex
    clear hA hB ra rb hd hnm
    go_enter Tryz.func12, Tryz.ntmps12
    go_wp2_with fail
    go_ret
    exact ⟨rfl, (Below.new _ _).alloc (by simp) _⟩
end Go.Proofs.YtkoggfahjlnecaaGreatDoor
namespace Go.Proofs.YtkoggfahjlnecaaGreatDoor
set_option linter.unusedVariables false
open Go.RowKit
/-- as signed numbers -/
def sltB (n A B : Nat) : Bool := if topB n A != topB n B then topB n A else decide (A < B)
set_option maxRecDepth 100000 in
set_option maxHeartbeats 2000000 in
theorem slt_any {w : World} {va vb : Value} {n A B : Nat} (hA : VR w va n A) (hB : VR w vb n B) : Calls Tryz.prog 124 #[va, vb] w fun e w' => e = .returned (.bool (sltB n A B)) ∧ Below w.heap.size w w' := by
  have HA := Lib.hid (fun w' (hb : Below w.heap.size w w') => negative_any (hA.below hb))
  have HB := Lib.hid (fun w' (hb : Below w.heap.size w w') => negative_any (hB.below hb))
  have HL := Lib.hid (fun w' (hb : Below w.heap.size w w') => less_any (hA.below hb) (hB.below hb))
  have hs : sltB n A B = if topB n A != topB n B then topB n A else decide (A < B) := rfl
  obtain ⟨pa, ca, rfl, ra⟩ := hA.ex
  obtain ⟨pb, cb, rfl, rb⟩ := hB.ex
  clear hA hB ra rb
  change Hid (∀ w', Below w.heap.size w w' → Calls Tryz.prog 93 #[.agg #[.int .i64 n, .slice pa (wcount n) ca]] w' fun e w'' => e = .returned (.bool (topB n A)) ∧ Below w'.heap.size w' w'') at HA
  change Hid (∀ w', Below w.heap.size w w' → Calls Tryz.prog 93 #[.agg #[.int .i64 n, .slice pb (wcount n) cb]] w' fun e w'' => e = .returned (.bool (topB n B)) ∧ Below w'.heap.size w' w'') at HB
  generalize topB n A = ta at *
  generalize topB n B = tb at *
  generalize decide (A < B) = lt at *
  rw [hs]
  clear hs
  obtain ⟨r, hr⟩ : ∃ r, (if (ta != tb) = true then ta else lt) = r := ⟨_, rfl⟩
  rw [hr]
  have HR := Lib.hid hr
  clear hr
  have HAg := Lib.hid (fun (W : World) (hb3 : Below w.heap.size w W) (s : After W) => HA.out s.val (hb3.trans (s.below.mono hb3.size)))
  have HBg := Lib.hid (fun (W : World) (hb3 : Below w.heap.size w W) (s : After W) => HB.out s.val (hb3.trans (s.below.mono hb3.size)))
  cases ta <;> cases tb
  all_goals
    go_enter Tryz.func124, Tryz.ntmps124
    go_wp2_with fail
    have k0 := (Blk.new (w := w) 39 [.int .i64 n, .slice pa (wcount n) ca]).alloc (.cells #[.int .i64 n, .slice pb (wcount n) cb] 39)
    have k1 := Blk.new (w := w.alloc (.cells #[.int .i64 n, .slice pa (wcount n) ca] 39)) 39 [.int .i64 n, .slice pb (wcount n) cb]
    have hb3 : Below w.heap.size w ((w.alloc (.cells #[.int .i64 n, .slice pa (wcount n) ca] 39)).alloc (.cells #[.int .i64 n, .slice pb (wcount n) cb] 39)) := (Below.new _ _).alloc (by simp) _
    simp only [World.size_alloc] at k1
    generalize (w.alloc (.cells #[.int .i64 n, .slice pa (wcount n) ca] 39)).alloc (.cells #[.int .i64 n, .slice pb (wcount n) cb] 39) = W at *
    have HK := Lib.hid (And.intro k0 (And.intro k1 hb3))
    have a0 := After.cell (k0.cell (i := 0) rfl)
    have a1 := After.cell (k0.cell (i := 1) rfl)
    have b0 := After.cell (k1.cell (i := 0) rfl)
    have b1 := After.cell (k1.cell (i := 1) rfl)
    have HAs := Lib.hid (HAg.out W hb3)
    have HBs := Lib.hid (HBg.out W hb3)
    clear k0 k1 hb3
    refine wp_region_after (by kernel_rfl) (by kernel_rfl) ?_
    repeat (go_big_quiet_step ((first | (with_reducible exact Calls.after_of (HAs.out _)) | (with_reducible exact Calls.after_of (HBs.out _)))))
    refine wpQuiet_nil ?_
    rintro _ ⟨s, rfl⟩
    have x0 := a0 s
    have x1 := a1 s
    have y0 := b0 s
    have y1 := b1 s
    have HS := Lib.hid (HK.out.2.2.trans (s.below.mono HK.out.2.2.size))
    obtain ⟨w1, hw1⟩ := s
    dsimp only at x0 x1 y0 y1 HS ⊢
    clear a0 a1 b0 b1 HAs HBs
    go_wp2_with (first
      | (go_at_call 123; refine (HL.out _ HS.out).mono ?_; rintro e w2 ⟨rfl, hb2⟩; have HH := Lib.hid (HS.out.trans (hb2.mono HS.out.size)); clear hb2)
      | (go_at_call 93; refine (HA.out _ HS.out).mono ?_; rintro e w2 ⟨rfl, hb2⟩; have HH := Lib.hid (HS.out.trans (hb2.mono HS.out.size)); clear hb2))
    go_ret
    exact ⟨by rw [← HR.out]; rfl, HH.out⟩
/-- the comparisons -/
def cmpB (op : Nat) (n A B : Nat) : Bool :=
  if op = 13 then decide (A = B) else if op = 14 then !decide (A = B) else if op = 15 then decide (A < B) else if op = 16 then !decide (B < A) else if op = 17 then sltB n A B else !sltB n B A
set_option maxRecDepth 100000 in
set_option maxHeartbeats 4000000 in
theorem compare_any {w : World} {va vb : Value} {n A B : Nat} (hA : VR w va n A) (hB : VR w vb n B) (op : Nat) (h1 : 13 ≤ op) (h2 : op ≤ 18) : Calls Tryz.prog 90 #[.int .i64 op, va, vb] w fun e w' => e = .returned (.bool (cmpB op n A B)) ∧ Below w.heap.size w w' := by
  have HE := Lib.hid (fun w' (hb : Below w.heap.size w w') => equal_any (hA.below hb) (hB.below hb))
  have HL1 := Lib.hid (fun w' (hb : Below w.heap.size w w') => less_any (hA.below hb) (hB.below hb))
  have HL2 := Lib.hid (fun w' (hb : Below w.heap.size w w') => less_any (hB.below hb) (hA.below hb))
  have HS1 := Lib.hid (fun w' (hb : Below w.heap.size w w') => slt_any (hA.below hb) (hB.below hb))
  have HS2 := Lib.hid (fun w' (hb : Below w.heap.size w w') => slt_any (hB.below hb) (hA.below hb))
  obtain ⟨pa, ca, rfl, ra⟩ := hA.ex
  obtain ⟨pb, cb, rfl, rb⟩ := hB.ex
  have HBl := Lib.hid (show ∀ o1 o2, Below w.heap.size w ((w.alloc o1).alloc o2) from fun o1 o2 => (Below.new _ _).alloc (by simp) _)
  have hsz := fun o1 o2 : Obj => show ((w.alloc o1).alloc o2).heap.size = w.heap.size + 1 + 1 by simp
  simp only [true_and] at HE
  clear hA hB ra rb
  have hop : op = 13 ∨ op = 14 ∨ op = 15 ∨ op = 16 ∨ op = 17 ∨ op = 18 := by omega
  clear h1 h2
  have fin : Hid (∀ W w' : World, Below w.heap.size w W → Below W.heap.size W w' → Below w.heap.size w w') := Lib.hid fun W w' h k => h.trans (k.mono h.size)
  rcases hop with rfl | rfl | rfl | rfl | rfl | rfl
  all_goals simp only [cmpB, Nat.reduceEqDiff, if_true, if_false]
  · generalize decide (A = B) = r at *
    go_enter Tryz.func90, Tryz.ntmps90
    go_wp2_with (go_at_call 12; refine (HE.out _ (HBl.out _ _)).mono ?_; rintro e w2 ⟨rfl, hb2⟩; have HH := Lib.hid (fin.out _ _ (HBl.out _ _) hb2); clear hb2)
    go_ret
    exact ⟨rfl, HH.out⟩
  · generalize decide (A = B) = r at *
    go_enter Tryz.func90, Tryz.ntmps90
    go_wp2_with (go_at_call 12; refine (HE.out _ (HBl.out _ _)).mono ?_; rintro e w2 ⟨rfl, hb2⟩; have HH := Lib.hid (fin.out _ _ (HBl.out _ _) hb2); clear hb2)
    go_ret
    exact ⟨rfl, HH.out⟩
  · generalize decide (A < B) = r at *
    go_enter Tryz.func90, Tryz.ntmps90
    go_wp2_with (go_at_call 123; refine (HL1.out _ (HBl.out _ _)).mono ?_; rintro e w2 ⟨rfl, hb2⟩; have HH := Lib.hid (fin.out _ _ (HBl.out _ _) hb2); clear hb2)
    go_ret
    exact ⟨rfl, HH.out⟩
  · generalize decide (B < A) = r at *
    go_enter Tryz.func90, Tryz.ntmps90
    go_wp2_with (go_at_call 123; refine (HL2.out _ (HBl.out _ _)).mono ?_; rintro e w2 ⟨rfl, hb2⟩; have HH := Lib.hid (fin.out _ _ (HBl.out _ _) hb2); clear hb2)
    go_ret
    exact ⟨rfl, HH.out⟩
  · generalize sltB n A B = r at *
    go_enter Tryz.func90, Tryz.ntmps90
    go_wp2_with (go_at_call 124; refine (HS1.out _ (HBl.out _ _)).mono ?_; rintro e w2 ⟨rfl, hb2⟩; have HH := Lib.hid (fin.out _ _ (HBl.out _ _) hb2); clear hb2)
    go_ret
    exact ⟨rfl, HH.out⟩
  · generalize sltB n B A = r at *
    go_enter Tryz.func90, Tryz.ntmps90
    go_wp2_with (go_at_call 124; refine (HS2.out _ (HBl.out _ _)).mono ?_; rintro e w2 ⟨rfl, hb2⟩; have HH := Lib.hid (fin.out _ _ (HBl.out _ _) hb2); clear hb2)
    go_ret
    exact ⟨rfl, HH.out⟩
end Go.Proofs.YtkoggfahjlnecaaGreatDoor
namespace Go.Proofs.YtkoggfahjlnecaaGreatDoor
set_option linter.unusedVariables false
open Go.RowKit
/-- without its sign -/
def magN (n A : Nat) : Nat := if topB n A then negN n A else A
theorem magN_lt {n A : Nat} (h : A < 2 ^ n) : magN n A < 2 ^ n := by unfold magN; split; exact negN_lt _ _; exact h
set_option maxRecDepth 100000 in
set_option maxHeartbeats 2000000 in
theorem magnitude_any {w : World} {va : Value} {n A : Nat} (hA : VR w va n A) (hn : 0 < n) : Calls Tryz.prog 139 #[va] w (Ret w n (magN n A)) := by
  have HT : Hid (∀ w', Below w.heap.size w w' → Calls Tryz.prog 93 #[va] w' fun e w'' => e = .returned (.bool (topB n A)) ∧ Below w'.heap.size w' w'') := Lib.hid (fun w' hb => negative_any (hA.below hb))
  have HN := Lib.hid (fun w' (hb : Below w.heap.size w w') => neg_any (hA.below hb) hn)
  have HA := Lib.hid hA
  obtain ⟨pa, ca, rfl, ra⟩ := hA.ex
  have hpa : ∀ b o, pa = some ⟨b, o, none⟩ → b < w.heap.size := fun b o h => by
    subst h
    have hm : 0 < wcount n := by unfold wcount; omega
    exact World.block_lt_of_cell? _ _ (ra.cell (wordsV_at hm))
  have HPA := Lib.hid hpa
  obtain ⟨t, ht⟩ : ∃ t, topB n A = t := ⟨_, rfl⟩
  rw [ht] at HT
  have HMt := Lib.hid ht
  have k0 := (Blk.new (w := w) 39 [.int .i64 n, .slice pa (wcount n) ca]).alloc (.cells #[.int .i64 0, .slice none 0 0] 39)
  have k2 := Blk.new (w := (w.alloc (.cells #[.int .i64 n, .slice pa (wcount n) ca] 39))) 39 [.int .i64 0, .slice none 0 0]
  have hb3 : Below w.heap.size w ((w.alloc (.cells #[.int .i64 n, .slice pa (wcount n) ca] 39)).alloc (.cells #[.int .i64 0, .slice none 0 0] 39)) := (Below.new _ _).alloc (by simp) _
  simp only [World.size_alloc] at k2
  have HK := Lib.hid (And.intro k0 (And.intro k2 hb3))
  clear hA ra hn k0 k2 hb3 hpa ht
  go_enter Tryz.func139, Tryz.ntmps139
  go_wp2_with fail
  generalize (w.alloc (.cells #[.int .i64 n, .slice pa (wcount n) ca] 39)).alloc (.cells #[.int .i64 0, .slice none 0 0] 39) = W at *
  refine (HT.out _ HK.out.2.2).mono ?_; rintro e w1 ⟨rfl, hb1⟩
  have h0 := HK.out.1.next hb1
  have c0 := h0.cell (i := 0) rfl
  have c1 := h0.cell (i := 1) rfl
  have kr := HK.out.2.1.next hb1
  have HB1 := Lib.hid (And.intro (HK.out.2.2.trans (hb1.mono HK.out.2.2.size)) kr)
  cases t
  · have r0 := kr.cell (i := 0) rfl
    have r1 := kr.cell (i := 1) rfl
    have f0 := kr.frz 0
    have f1 := kr.frz 1
    clear hb1 h0 kr
    go_wp2_with fail
    obtain ⟨e0, e1, hv, hbl⟩ := ret3 HB1.out.2 HB1.out.1 (Nat.le_succ _) (HA.out.below HB1.out.1) (fun b o h => by have := HPA.out b o h; omega)
    have hm : magN n A = A := by unfold magN; rw [HMt.out]; rfl
    exact bodyPost_ret (v := .agg #[.int .i64 n, .slice pa (wcount n) ca]) (by simp [results, Tryz.results139, go_sem, e0, e1]) rfl ⟨_, rfl, by rw [hm]; exact hv, hbl⟩
  · clear hb1 h0 kr
    go_wp2_with fail
    refine (HN.out _ HB1.out.1).mono ?_; rintro e w2 ⟨v2, b2, rfl, hv2, hge2, hb2⟩
    obtain rfl := hv2.e
    have kr := HB1.out.2.next hb2
    have H2 := Lib.hid (And.intro hv2 (And.intro hge2 (And.intro (HB1.out.1.trans (hb2.mono HB1.out.1.size)) kr)))
    have r0 := kr.cell (i := 0) rfl
    have r1 := kr.cell (i := 1) rfl
    have f0 := kr.frz 0
    have f1 := kr.frz 1
    clear hv2 hge2 hb2 kr c0 c1
    go_wp2_with fail
    obtain ⟨e0, e1, hv, hbl⟩ := ret2 H2.out.2.2.2 H2.out.2.2.1 (Nat.le_succ _) H2.out.1 (by have := H2.out.2.1; have := HB1.out.2.lt; omega)
    have hm : magN n A = negN n A := by unfold magN; rw [HMt.out]; rfl
    exact bodyPost_ret (v := vecO n b2) (by simp [results, Tryz.results139, go_sem, e0, e1, vecO]) rfl ⟨_, rfl, by rw [hm]; exact hv.vr (negN_lt _ _), hbl⟩
/-- the shifts -/
def shiftN (op n A B : Nat) : Nat := ofB (if op = 10 then upF A (min B n) else downF A n (min B n) (if op = 11 then false else topB n A)) n
theorem shiftN_lt (op n A B : Nat) : shiftN op n A B < 2 ^ n := ofB_lt _ _
set_option maxRecDepth 100000 in
set_option maxHeartbeats 4000000 in
theorem shift_any {w : World} {va vb : Value} {n A B : Nat} (hA : VR w va n A) (hB : VR w vb n B) (op : Nat) (hop : op = 10 ∨ op = 11 ∨ op = 12) : Calls Tryz.prog 89 #[.int .i64 op, va, vb] w (Fresh w n (shiftN op n A B)) := by
  have hn128 := hA.le
  have hni : (n : Int) ≤ 128 := by omega
  have HT : Hid (∀ w', Below w.heap.size w w' → Calls Tryz.prog 93 #[va] w' fun e w'' => e = .returned (.bool (topB n A)) ∧ Below w'.heap.size w' w'') := Lib.hid (fun w' hb => negative_any (hA.below hb))
  have HNm : Hid (∀ w', Below w.heap.size w w' → Calls Tryz.prog 21 #[vb, .int .i64 n] w' fun e w'' => e = .returned (.int .i64 ((min B n : Nat) : Int)) ∧ Below w'.heap.size w' w'') := Lib.hid (fun w' hb => (num_any (hB.below hb) n (by omega)).mono fun e w'' ⟨he, hb⟩ => ⟨by rw [he]; congr 2; omega, hb⟩)
  have HU := Lib.hid (fun w' (hb : Below w.heap.size w w') => up_any (hA.below hb) (min B n) (by omega))
  have HD := Lib.hid (fun w' (hb : Below w.heap.size w w') q => down_any (hA.below hb) (min B n) (by omega) q)
  obtain ⟨pa, ca, rfl, ra⟩ := hA.ex
  obtain ⟨pb, cb, rfl, rb⟩ := hB.ex
  have hsh : ∀ op, shiftN op n A B = ofB (if op = 10 then upF A (min B n) else downF A n (min B n) (if op = 11 then false else topB n A)) n := fun _ => rfl
  have hsi : ((min B n : Nat) : Int) ≤ 128 := by omega
  rw [hsh]
  generalize min B n = s at *
  have k0 := ((Blk.new (w := w) 39 [.int .i64 n, .slice pa (wcount n) ca]).alloc (.cells #[.int .i64 n, .slice pb (wcount n) cb] 39)).alloc (.cells #[.int .i64 0, .slice none 0 0] 39)
  have k1 := (Blk.new (w := w.alloc (.cells #[.int .i64 n, .slice pa (wcount n) ca] 39)) 39 [.int .i64 n, .slice pb (wcount n) cb]).alloc (.cells #[.int .i64 0, .slice none 0 0] 39)
  have k2 := Blk.new (w := (w.alloc (.cells #[.int .i64 n, .slice pa (wcount n) ca] 39)).alloc (.cells #[.int .i64 n, .slice pb (wcount n) cb] 39)) 39 [.int .i64 0, .slice none 0 0]
  have hb3 : Below w.heap.size w (((w.alloc (.cells #[.int .i64 n, .slice pa (wcount n) ca] 39)).alloc (.cells #[.int .i64 n, .slice pb (wcount n) cb] 39)).alloc (.cells #[.int .i64 0, .slice none 0 0] 39)) := ((Below.new _ _).alloc (by simp) _).alloc (by simp; omega) _
  simp only [World.size_alloc] at k1 k2
  have HK := Lib.hid (And.intro k0 (And.intro k1 (And.intro k2 hb3)))
  clear hA hB ra rb hn128 hsh k0 k1 k2 hb3
  rcases hop with rfl | rfl | rfl
  all_goals simp only [Nat.reduceEqDiff, if_true, if_false]
  all_goals
    go_enter Tryz.func89, Tryz.ntmps89
    go_wp2_with fail
    generalize ((w.alloc (.cells #[.int .i64 n, .slice pa (wcount n) ca] 39)).alloc (.cells #[.int .i64 n, .slice pb (wcount n) cb] 39)).alloc (.cells #[.int .i64 0, .slice none 0 0] 39) = W at *
    refine (HNm.out _ HK.out.2.2.2).mono ?_; rintro e w1 ⟨rfl, hb1⟩
    have h0 := HK.out.1.next hb1
    have c0 := h0.cell (i := 0) rfl
    have c1 := h0.cell (i := 1) rfl
    have HB1 := Lib.hid (And.intro (HK.out.2.2.2.trans (hb1.mono HK.out.2.2.2.size)) (And.intro (HK.out.2.2.1.next hb1) h0))
    clear hb1 h0
    go_wp2_with fail
  · refine (HU.out _ HB1.out.1).mono ?_; rintro e w2 ⟨v2, b2, rfl, hv2, hge2, hb2⟩
    obtain rfl := hv2.e
    have kr := HB1.out.2.1.next hb2
    have H2 := Lib.hid (And.intro hv2 (And.intro hge2 (And.intro (HB1.out.1.trans (hb2.mono HB1.out.1.size)) kr)))
    have r0 := kr.cell (i := 0) rfl
    have r1 := kr.cell (i := 1) rfl
    have f0 := kr.frz 0
    have f1 := kr.frz 1
    clear hv2 hge2 hb2 kr c0 c1
    go_wp2_with fail
    obtain ⟨e0, e1, hv, hbl⟩ := ret2 H2.out.2.2.2 H2.out.2.2.1 (by omega) H2.out.1 (by have := H2.out.2.1; have := HB1.out.2.1.lt; omega)
    exact bodyPost_ret (v := vecO n b2) (by simp [results, Tryz.results89, go_sem, e0, e1, vecO]) rfl ⟨_, _, rfl, hv, Nat.le_trans HB1.out.1.size H2.out.2.1, hbl⟩
  · refine (HD.out _ HB1.out.1 false).mono ?_; rintro e w2 ⟨v2, b2, rfl, hv2, hge2, hb2⟩
    obtain rfl := hv2.e
    have kr := HB1.out.2.1.next hb2
    have H2 := Lib.hid (And.intro hv2 (And.intro hge2 (And.intro (HB1.out.1.trans (hb2.mono HB1.out.1.size)) kr)))
    have r0 := kr.cell (i := 0) rfl
    have r1 := kr.cell (i := 1) rfl
    have f0 := kr.frz 0
    have f1 := kr.frz 1
    clear hv2 hge2 hb2 kr c0 c1
    go_wp2_with fail
    obtain ⟨e0, e1, hv, hbl⟩ := ret2 H2.out.2.2.2 H2.out.2.2.1 (by omega) H2.out.1 (by have := H2.out.2.1; have := HB1.out.2.1.lt; omega)
    exact bodyPost_ret (v := vecO n b2) (by simp [results, Tryz.results89, go_sem, e0, e1, vecO]) rfl ⟨_, _, rfl, hv, Nat.le_trans HB1.out.1.size H2.out.2.1, hbl⟩
  · have s0 : w1.drew.cell? ⟨w.heap.size, 0, none⟩ = some (.int .i64 n) ∧ w1.drew.cell? ⟨w.heap.size, 1, none⟩ = some (.slice pa (wcount n) ca) ∧ Below w.heap.size w w1.drew := ⟨c0, c1, HB1.out.1.drew⟩
    have K0 := Lib.hid HB1.out.2.1.drew
    generalize topB n A = t at *
    clear c0 c1
    go_region_held3 (fun w' => w'.cell? ⟨w.heap.size, 0, none⟩ = some (.int .i64 n) ∧ w'.cell? ⟨w.heap.size, 1, none⟩ = some (.slice pa (wcount n) ca) ∧ Below w.heap.size w w')
      (first | assumption | exact two_set s6 (by omega) (by omega))
      (first
        | (go_at_call 93; refine (HT.out _ s0.2.2).mono ?_; rintro e w4 ⟨rfl, hb4⟩; have s4 := two_step s0 hb4; have K4 := Lib.hid (K0.out.next hb4); clear hb4)
        | (go_at_call 122; refine (HD.out _ s4.2.2 _).mono ?_; rintro e w6 ⟨v6, b6, rfl, hv6, hge6, hb6⟩; obtain rfl := hv6.e; have s6 := two_step s4 hb6; have k6 := K4.out.next hb6; have r0 := k6.cell (i := 0) rfl; have r1 := k6.cell (i := 1) rfl; have f0 := k6.frz 0; have f1 := k6.frz 1; have H6 := Lib.hid (And.intro hv6 (And.intro hge6 k6)); clear hv6 hge6 k6 hb6))
    go_wp2_with fail
    obtain ⟨e0, e1, hv, hbl⟩ := ret2 H6.out.2.2 s6.2.2 (by omega) H6.out.1 (by have := H6.out.2.1; have := K4.out.lt; omega)
    exact bodyPost_ret (v := vecO n b6) (by simp [results, Tryz.results89, go_sem, e0, e1, vecO]) rfl ⟨_, _, rfl, hv, Nat.le_trans s4.2.2.size H6.out.2.1, hbl⟩
end Go.Proofs.YtkoggfahjlnecaaGreatDoor
namespace Go.Proofs.YtkoggfahjlnecaaGreatDoor
set_option linter.unusedVariables false
open Go.RowKit
/-- a vector's words lie in no old block -/
def Far (w : World) (v : Value) : Prop := ∀ k p m c b o, v = .agg #[k, .slice p m c] → p = some ⟨b, o, none⟩ → w.heap.size ≤ b
theorem Far.zero (w : World) (k : Value) : Far w (.agg #[k, .slice none 0 0]) := fun _ _ _ _ _ _ e h => by
  simp only [Value.agg.injEq, Array.mk.injEq, List.cons.injEq, Value.slice.injEq] at e
  rw [← e.2.1.1] at h; cases h
theorem Far.vec {w : World} {k : Value} {b m c : Nat} (hb : w.heap.size ≤ b) : Far w (.agg #[k, .slice (some ⟨b, 0, none⟩) m c]) := fun _ _ _ _ _ _ e h => by
  simp only [Value.agg.injEq, Array.mk.injEq, List.cons.injEq, Value.slice.injEq] at e
  rw [← e.2.1.1] at h
  simp only [Option.some.injEq, Addr.mk.injEq] at h
  omega
/-- a vector and an error are returned -/
def RetE (w : World) (n x : Nat) (err : Int) (e : Ending) (w' : World) : Prop := ∃ v, e = .returned (.tuple #[v, .int .i64 err]) ∧ VR w' v n x ∧ Below w.heap.size w w' ∧ Far w v
theorem VR.zero (w : World) : VR w (.agg #[.int .i64 0, .slice none 0 0]) 0 0 :=
  ⟨⟨none, 0, rfl, ⟨rfl, _, _, rfl, fun j u hj => by simp [wordsV, wcount] at hj⟩⟩, by decide, by decide⟩
set_option maxRecDepth 100000 in
set_option maxHeartbeats 2000000 in
theorem of_bad {w : World} {vl : Value} {l : List Bool} (hl : RO w vl 1 l.length (bools l)) (hm : l.length ≤ 9223372036854775807) (hb : l.length < 1 ∨ 128 < l.length) : Calls Tryz.prog 43 #[vl] w (RetE w 0 0 2) := by
  obtain ⟨p, c, rfl⟩ := hl.form
  have HG : Hid (∀ w, Calls Tryz.prog 23 #[.int .i64 l.length] w fun e w' => e = .returned (.bool false) ∧ w = w') := Lib.hid fun w => by
    have := good_any l.length w
    rwa [show (decide ((1 : Int) ≤ l.length) && decide ((l.length : Int) ≤ 128)) = false by simp; omega] at this
  clear hl hm hb
  go_enter Tryz.func43, Tryz.ntmps43
  go_wp2_with fail
  refine (HG.out _).mono ?_; rintro e w' ⟨rfl, rfl⟩
  go_wp2_with fail
  exact bodyPost_ret (v := .tuple #[.agg #[.int .i64 0, .slice none 0 0], .int .i64 2]) (by simp [results, Tryz.results43, go_sem]) rfl ⟨_, rfl, VR.zero _, Below.new _ _, Far.zero _ _⟩
set_option maxRecDepth 100000 in
set_option maxHeartbeats 4000000 in
theorem of_good {w : World} {vl : Value} {l : List Bool} (hl : RO w vl 1 l.length (bools l)) (h1 : 1 ≤ l.length) (h2 : l.length ≤ 128) : Calls Tryz.prog 43 #[vl] w (RetE w l.length (valB l) 0) := by
  obtain ⟨pl, cl, rfl⟩ := hl.form
  have HL := Lib.hid hl
  obtain ⟨n, hn⟩ : ∃ n, l.length = n := ⟨_, rfl⟩
  have HV : Hid (valB l = ofB (fun i => l.getD i false) n) := Lib.hid (by rw [← hn]; rfl)
  rw [hn] at h1 h2 hl HL ⊢
  have hni : (n : Int) ≤ 128 := by omega
  have hni1 : (1 : Int) ≤ n := by omega
  have HBl := Lib.hid (fun w => blank_any (w := w) n h2)
  have HG : Hid (∀ w, Calls Tryz.prog 23 #[.int .i64 n] w fun e w' => e = .returned (.bool true) ∧ w = w') := Lib.hid fun w => by
    have := good_any n w
    rwa [show (decide ((1 : Int) ≤ n) && decide ((n : Int) ≤ 128)) = true by simp; omega] at this
  have HN := Lib.hid hn
  clear hl h1 h2 hn
  go_enter Tryz.func43, Tryz.ntmps43
  go_wp2_with fail
  refine (HG.out _).mono ?_; rintro e w' ⟨rfl, rfl⟩
  go_wp2_with fail
  have k2 := Blk.new (w := w) 39 [.int .i64 0, .slice none 0 0]
  have hb3 := Below.new w (.cells #[.int .i64 0, .slice none 0 0] 39)
  generalize w.alloc (.cells #[.int .i64 0, .slice none 0 0] 39) = W at *
  have HK := Lib.hid (And.intro k2 hb3)
  clear k2 hb3
  refine (HBl.out _).mono ?_; rintro e w1 ⟨v, b, rfl, hV, hge, hb1⟩
  obtain rfl := hV.e
  have hS := Bld.start (w := w) (bs := [(w.heap.size, [.int .i64 0, .slice none 0 0])]) (by
    intro p hp
    simp only [List.mem_cons, List.not_mem_nil, or_false] at hp
    subst hp
    exact HK.out.1) HK.out.2 hb1 hV hge
  have hS2 := Lib.hid (hS.push [.int .i64 n, .slice (some ⟨b, 0, none⟩) (wcount n) (wcount n)])
  clear hV hb1 hS hge
  go_wp2_with fail
  generalize w1.alloc (.cells #[.int .i64 n, .slice (some ⟨b, 0, none⟩) (wcount n) (wcount n)] 39) = w2 at *
  generalize w1.heap.size = L at *
  go_loopw [17] (fun i wr => ∃ k : Nat, k ≤ n ∧ i = .int .i64 k ∧ Bld w [(L, [.int .i64 n, .slice (some ⟨b, 0, none⟩) (wcount n) (wcount n)]), (w.heap.size, [.int .i64 0, .slice none 0 0])] n (ofB (fun i => l.getD i false) k) b wr) (fun i _ => n - (intOf i).toNat)
  case atStart => exact ⟨0, Nat.zero_le _, rfl, hS2.out⟩
  case round =>
    obtain ⟨k, hk, rfl, hX⟩ := hrel
    have HX := Lib.hid hX
    have y0 := (hX.box (p := (L, [.int .i64 n, .slice (some ⟨b, 0, none⟩) (wcount n) (wcount n)])) (by simp)).cell (i := 0) rfl
    have y1 := (hX.box (p := (L, [.int .i64 n, .slice (some ⟨b, 0, none⟩) (wcount n) (wcount n)])) (by simp)).cell (i := 1) rfl
    dsimp only at y0 y1
    by_cases hlt : k < n
    · have hki : (k : Int) < n := by omega
      have hro := HL.out.below hX.bel
      have hkl : k < l.length := by rw [HN.out]; exact hlt
      obtain ⟨bl, ol, rfl⟩ := hro.sl (bools_at l k hkl)
      have f0 := hro.cell (bools_at l k hkl)
      have HST := Lib.hid (setB_ofB (fun i => l.getD i false) k)
      have HSet := set_any hX.vo k (l.getD k false) hlt
      generalize l.getD k false = q at *
      have HSet := Lib.hid HSet
      clear hX hro hkl
      go_wp2_with fail
      refine HSet.out.mono ?_; rintro e w6 ⟨rfl, hv6, hg6⟩
      have H6 := Lib.hid (HX.out.grown hg6 hv6)
      clear hv6 hg6
      go_wp2_with fail
      go_roundw
      case rel => exact ⟨k + 1, by omega, by go_num, by rw [← HST.out]; exact H6.out⟩
      case measure => simp [intOf]; omega
    · obtain rfl : k = n := by omega
      have kr := hX.box (p := (w.heap.size, [.int .i64 0, .slice none 0 0])) (by simp)
      have r0 := kr.cell (i := 0) rfl
      have r1 := kr.cell (i := 1) rfl
      have f0 := kr.frz 0
      have f1 := kr.frz 1
      dsimp only at r0 r1 f0 f1
      clear hX kr hlt
      go_wp2_with fail
      obtain ⟨e0, e1, hv, hbl⟩ := HX.out.ret (R := w.heap.size) (u := .int .i64 0) (v := .slice none 0 0) (by simp) (Nat.le_refl _)
      exact bodyPost_ret (v := .tuple #[vecO k b, .int .i64 0]) (by simp [results, Tryz.results43, go_sem, e0, e1, vecO]) rfl ⟨_, rfl, by rw [HV.out]; exact hv.vr (ofB_lt _ _), hbl, Far.vec HX.out.ge⟩
end Go.Proofs.YtkoggfahjlnecaaGreatDoor
