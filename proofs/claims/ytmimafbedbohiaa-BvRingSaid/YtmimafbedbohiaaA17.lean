import Derived.Test.YtmimafbedbohiaaA16
namespace Go.Proofs.Ytmimafbedbohiaa
set_option linter.unusedVariables false
open Go.RowKit

/-- without its sign -/
def magN (n A : Nat) : Nat := if topB n A then negN n A else A
theorem magN_lt {n A : Nat} (h : A < 2 ^ n) : magN n A < 2 ^ n := by unfold magN; split; exact negN_lt _ _; exact h
set_option maxRecDepth 100000 in
set_option maxHeartbeats 2000000 in
theorem magnitude_any {w : World} {va : Value} {n A : Nat} (hA : VR w va n A) (hn : 0 < n) : Calls Try.prog 92 #[va] w (Ret w n (magN n A)) := by
  have HT : Hid (∀ w', Below w.heap.size w w' → Calls Try.prog 77 #[va] w' fun e w'' => e = .returned (.bool (topB n A)) ∧ Below w'.heap.size w' w'') := Lib.hid (fun w' hb => negative_any (hA.below hb))
  have HN := Lib.hid (fun w' (hb : Below w.heap.size w w') => neg_any (hA.below hb) hn)
  have HA := Lib.hid hA
  obtain ⟨pa, ca, rfl, ra⟩ := hA.ex
  have hpa : ∀ b o, pa = some ⟨b, o, none⟩ → b < w.heap.size := fun b o h => by
    subst h
    have hm : 0 < wcount n := by unfold wcount; omega
    exact World.block_lt_of_cell? _ _ (ra.cell (wordsV_at hm))
  have HPA := Lib.hid hpa
  obtain ⟨t, ht⟩ : ∃ t, topB n A = t := ⟨_, rfl⟩
  rw [ht] at HT
  have HMt := Lib.hid ht
  have k0 := (Blk.new (w := w) 26 [.int .i64 n, .slice pa (wcount n) ca]).alloc (.cells #[.int .i64 0, .slice none 0 0] 26)
  have k2 := Blk.new (w := (w.alloc (.cells #[.int .i64 n, .slice pa (wcount n) ca] 26))) 26 [.int .i64 0, .slice none 0 0]
  have hb3 : Below w.heap.size w ((w.alloc (.cells #[.int .i64 n, .slice pa (wcount n) ca] 26)).alloc (.cells #[.int .i64 0, .slice none 0 0] 26)) := (Below.new _ _).alloc (by simp) _
  simp only [World.size_alloc] at k2
  have HK := Lib.hid (And.intro k0 (And.intro k2 hb3))
  clear hA ra hn k0 k2 hb3 hpa ht
  go_enter Try.func92, Try.ntmps92
  go_wp2_with fail
  generalize (w.alloc (.cells #[.int .i64 n, .slice pa (wcount n) ca] 26)).alloc (.cells #[.int .i64 0, .slice none 0 0] 26) = W at *
  refine (HT.out _ HK.out.2.2).mono ?_; rintro e w1 ⟨rfl, hb1⟩
  have h0 := HK.out.1.next hb1
  have c0 := h0.cell (i := 0) rfl
  have c1 := h0.cell (i := 1) rfl
  have kr := HK.out.2.1.next hb1
  have HB1 := Lib.hid (And.intro (HK.out.2.2.trans (hb1.mono HK.out.2.2.size)) kr)
  cases t
  · have r0 := kr.cell (i := 0) rfl
    have r1 := kr.cell (i := 1) rfl
    have f0 := kr.frz 0
    have f1 := kr.frz 1
    clear hb1 h0 kr
    go_wp2_with fail
    obtain ⟨e0, e1, hv, hbl⟩ := ret3 HB1.out.2 HB1.out.1 (Nat.le_succ _) (HA.out.below HB1.out.1) (fun b o h => by have := HPA.out b o h; omega)
    have hm : magN n A = A := by unfold magN; rw [HMt.out]; rfl
    exact bodyPost_ret (v := .agg #[.int .i64 n, .slice pa (wcount n) ca]) (by simp [results, Try.results92, go_sem, e0, e1]) rfl ⟨_, rfl, by rw [hm]; exact hv, hbl⟩
  · clear hb1 h0 kr
    go_wp2_with fail
    refine (HN.out _ HB1.out.1).mono ?_; rintro e w2 ⟨v2, b2, rfl, hv2, hge2, hb2⟩
    obtain rfl := hv2.e
    have kr := HB1.out.2.next hb2
    have H2 := Lib.hid (And.intro hv2 (And.intro hge2 (And.intro (HB1.out.1.trans (hb2.mono HB1.out.1.size)) kr)))
    have r0 := kr.cell (i := 0) rfl
    have r1 := kr.cell (i := 1) rfl
    have f0 := kr.frz 0
    have f1 := kr.frz 1
    clear hv2 hge2 hb2 kr c0 c1
    go_wp2_with fail
    obtain ⟨e0, e1, hv, hbl⟩ := ret2 H2.out.2.2.2 H2.out.2.2.1 (Nat.le_succ _) H2.out.1 (by have := H2.out.2.1; have := HB1.out.2.lt; omega)
    have hm : magN n A = negN n A := by unfold magN; rw [HMt.out]; rfl
    exact bodyPost_ret (v := vecO n b2) (by simp [results, Try.results92, go_sem, e0, e1, vecO]) rfl ⟨_, rfl, by rw [hm]; exact hv.vr (negN_lt _ _), hbl⟩

/-- the shifts -/
def shiftN (op n A B : Nat) : Nat := ofB (if op = 10 then upF A (min B n) else downF A n (min B n) (if op = 11 then false else topB n A)) n
theorem shiftN_lt (op n A B : Nat) : shiftN op n A B < 2 ^ n := ofB_lt _ _
set_option maxRecDepth 100000 in
set_option maxHeartbeats 4000000 in
theorem shift_any {w : World} {va vb : Value} {n A B : Nat} (hA : VR w va n A) (hB : VR w vb n B) (op : Nat) (hop : op = 10 ∨ op = 11 ∨ op = 12) : Calls Try.prog 55 #[.int .i64 op, va, vb] w (Fresh w n (shiftN op n A B)) := by
  have hn128 := hA.le
  have hni : (n : Int) ≤ 128 := by omega
  have HT : Hid (∀ w', Below w.heap.size w w' → Calls Try.prog 77 #[va] w' fun e w'' => e = .returned (.bool (topB n A)) ∧ Below w'.heap.size w' w'') := Lib.hid (fun w' hb => negative_any (hA.below hb))
  have HNm : Hid (∀ w', Below w.heap.size w w' → Calls Try.prog 16 #[vb, .int .i64 n] w' fun e w'' => e = .returned (.int .i64 ((min B n : Nat) : Int)) ∧ Below w'.heap.size w' w'') := Lib.hid (fun w' hb => (num_any (hB.below hb) n (by omega)).mono fun e w'' ⟨he, hb⟩ => ⟨by rw [he]; congr 2; omega, hb⟩)
  have HU := Lib.hid (fun w' (hb : Below w.heap.size w w') => up_any (hA.below hb) (min B n) (by omega))
  have HD := Lib.hid (fun w' (hb : Below w.heap.size w w') q => down_any (hA.below hb) (min B n) (by omega) q)
  obtain ⟨pa, ca, rfl, ra⟩ := hA.ex
  obtain ⟨pb, cb, rfl, rb⟩ := hB.ex
  have hsh : ∀ op, shiftN op n A B = ofB (if op = 10 then upF A (min B n) else downF A n (min B n) (if op = 11 then false else topB n A)) n := fun _ => rfl
  have hsi : ((min B n : Nat) : Int) ≤ 128 := by omega
  rw [hsh]
  generalize min B n = s at *
  have k0 := ((Blk.new (w := w) 26 [.int .i64 n, .slice pa (wcount n) ca]).alloc (.cells #[.int .i64 n, .slice pb (wcount n) cb] 26)).alloc (.cells #[.int .i64 0, .slice none 0 0] 26)
  have k1 := (Blk.new (w := w.alloc (.cells #[.int .i64 n, .slice pa (wcount n) ca] 26)) 26 [.int .i64 n, .slice pb (wcount n) cb]).alloc (.cells #[.int .i64 0, .slice none 0 0] 26)
  have k2 := Blk.new (w := (w.alloc (.cells #[.int .i64 n, .slice pa (wcount n) ca] 26)).alloc (.cells #[.int .i64 n, .slice pb (wcount n) cb] 26)) 26 [.int .i64 0, .slice none 0 0]
  have hb3 : Below w.heap.size w (((w.alloc (.cells #[.int .i64 n, .slice pa (wcount n) ca] 26)).alloc (.cells #[.int .i64 n, .slice pb (wcount n) cb] 26)).alloc (.cells #[.int .i64 0, .slice none 0 0] 26)) := ((Below.new _ _).alloc (by simp) _).alloc (by simp; omega) _
  simp only [World.size_alloc] at k1 k2
  have HK := Lib.hid (And.intro k0 (And.intro k1 (And.intro k2 hb3)))
  clear hA hB ra rb hn128 hsh k0 k1 k2 hb3
  rcases hop with rfl | rfl | rfl
  all_goals simp only [Nat.reduceEqDiff, if_true, if_false]
  all_goals
    go_enter Try.func55, Try.ntmps55
    go_wp2_with fail
    generalize ((w.alloc (.cells #[.int .i64 n, .slice pa (wcount n) ca] 26)).alloc (.cells #[.int .i64 n, .slice pb (wcount n) cb] 26)).alloc (.cells #[.int .i64 0, .slice none 0 0] 26) = W at *
    refine (HNm.out _ HK.out.2.2.2).mono ?_; rintro e w1 ⟨rfl, hb1⟩
    have h0 := HK.out.1.next hb1
    have c0 := h0.cell (i := 0) rfl
    have c1 := h0.cell (i := 1) rfl
    have HB1 := Lib.hid (And.intro (HK.out.2.2.2.trans (hb1.mono HK.out.2.2.2.size)) (And.intro (HK.out.2.2.1.next hb1) h0))
    clear hb1 h0
    go_wp2_with fail
  · refine (HU.out _ HB1.out.1).mono ?_; rintro e w2 ⟨v2, b2, rfl, hv2, hge2, hb2⟩
    obtain rfl := hv2.e
    have kr := HB1.out.2.1.next hb2
    have H2 := Lib.hid (And.intro hv2 (And.intro hge2 (And.intro (HB1.out.1.trans (hb2.mono HB1.out.1.size)) kr)))
    have r0 := kr.cell (i := 0) rfl
    have r1 := kr.cell (i := 1) rfl
    have f0 := kr.frz 0
    have f1 := kr.frz 1
    clear hv2 hge2 hb2 kr c0 c1
    go_wp2_with fail
    obtain ⟨e0, e1, hv, hbl⟩ := ret2 H2.out.2.2.2 H2.out.2.2.1 (by omega) H2.out.1 (by have := H2.out.2.1; have := HB1.out.2.1.lt; omega)
    exact bodyPost_ret (v := vecO n b2) (by simp [results, Try.results55, go_sem, e0, e1, vecO]) rfl ⟨_, _, rfl, hv, Nat.le_trans HB1.out.1.size H2.out.2.1, hbl⟩
  · refine (HD.out _ HB1.out.1 false).mono ?_; rintro e w2 ⟨v2, b2, rfl, hv2, hge2, hb2⟩
    obtain rfl := hv2.e
    have kr := HB1.out.2.1.next hb2
    have H2 := Lib.hid (And.intro hv2 (And.intro hge2 (And.intro (HB1.out.1.trans (hb2.mono HB1.out.1.size)) kr)))
    have r0 := kr.cell (i := 0) rfl
    have r1 := kr.cell (i := 1) rfl
    have f0 := kr.frz 0
    have f1 := kr.frz 1
    clear hv2 hge2 hb2 kr c0 c1
    go_wp2_with fail
    obtain ⟨e0, e1, hv, hbl⟩ := ret2 H2.out.2.2.2 H2.out.2.2.1 (by omega) H2.out.1 (by have := H2.out.2.1; have := HB1.out.2.1.lt; omega)
    exact bodyPost_ret (v := vecO n b2) (by simp [results, Try.results55, go_sem, e0, e1, vecO]) rfl ⟨_, _, rfl, hv, Nat.le_trans HB1.out.1.size H2.out.2.1, hbl⟩
  · have s0 : w1.drew.cell? ⟨w.heap.size, 0, none⟩ = some (.int .i64 n) ∧ w1.drew.cell? ⟨w.heap.size, 1, none⟩ = some (.slice pa (wcount n) ca) ∧ Below w.heap.size w w1.drew := ⟨c0, c1, HB1.out.1.drew⟩
    have K0 := Lib.hid HB1.out.2.1.drew
    generalize topB n A = t at *
    clear c0 c1
    go_region_held3 (fun w' => w'.cell? ⟨w.heap.size, 0, none⟩ = some (.int .i64 n) ∧ w'.cell? ⟨w.heap.size, 1, none⟩ = some (.slice pa (wcount n) ca) ∧ Below w.heap.size w w')
      (first | assumption | exact two_set s6 (by omega) (by omega))
      (first
        | (go_at_call 77; refine (HT.out _ s0.2.2).mono ?_; rintro e w4 ⟨rfl, hb4⟩; have s4 := two_step s0 hb4; have K4 := Lib.hid (K0.out.next hb4); clear hb4)
        | (go_at_call 86; refine (HD.out _ s4.2.2 _).mono ?_; rintro e w6 ⟨v6, b6, rfl, hv6, hge6, hb6⟩; obtain rfl := hv6.e; have s6 := two_step s4 hb6; have k6 := K4.out.next hb6; have r0 := k6.cell (i := 0) rfl; have r1 := k6.cell (i := 1) rfl; have f0 := k6.frz 0; have f1 := k6.frz 1; have H6 := Lib.hid (And.intro hv6 (And.intro hge6 k6)); clear hv6 hge6 k6 hb6))
    go_wp2_with fail
    obtain ⟨e0, e1, hv, hbl⟩ := ret2 H6.out.2.2 s6.2.2 (by omega) H6.out.1 (by have := H6.out.2.1; have := K4.out.lt; omega)
    exact bodyPost_ret (v := vecO n b6) (by simp [results, Try.results55, go_sem, e0, e1, vecO]) rfl ⟨_, _, rfl, hv, Nat.le_trans s4.2.2.size H6.out.2.1, hbl⟩
end Go.Proofs.Ytmimafbedbohiaa
