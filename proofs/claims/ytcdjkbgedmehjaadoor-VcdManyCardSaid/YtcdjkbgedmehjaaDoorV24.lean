import Derived.Test.YtcdjkbgedmehjaaDoorV23
namespace Go.Proofs.YtcdjkbgedmehjaaDoor
set_option linter.unusedVariables false
open Go.RowKit Go.Sort

/-! # awake -/
def T0 : Trc := ⟨[109], [([97], 1)], [[(1, 1)], [(1, 1)], [(1, 0)]]⟩
def t0L : Bs := [36, 116, 105, 109, 101, 115, 99, 97, 108, 101, 32, 49, 32, 110, 115, 32, 36, 101, 110, 100, 10, 36, 115, 99, 111, 112, 101, 32, 109, 111, 100, 117, 108, 101, 32, 109, 32, 36, 101, 110, 100, 10, 36, 118, 97, 114, 32, 119, 105, 114, 101, 32, 49, 32, 33, 32, 97, 32, 36, 101, 110, 100, 10, 36, 117, 112, 115, 99, 111, 112, 101, 32, 36, 101, 110, 100, 10, 36, 101, 110, 100, 100, 101, 102, 105, 110, 105, 116, 105, 111, 110, 115, 32, 36, 101, 110, 100, 10, 35, 48, 10, 98, 49, 32, 33, 10, 35, 49, 10, 35, 50, 10, 98, 48, 32, 33, 10]
theorem t0_text : trcText T0 = t0L := by decide +kernel
theorem t0_check : checkN T0 = 0 := by decide +kernel
theorem t0_ok : TOk T0 := tok_of_check t0_check (by decide)
theorem new_one {w : World} (hr : RO w (.slice none 0 0) 1 0 []) : Calls Tryd.prog 6 #[.int .i64 1, .slice none 0 0] w (RetE w 1 0 0) := by
  have h := new_good (w := w) 1 (by decide) (by decide) (.slice none 0 0) (l := []) ⟨rfl, none, 0, rfl, fun j u hu => by simp [natsV] at hu⟩ (by simp)
  rw [show valW [] % 2 ^ 1 = 0 by simp [valW]] at h
  exact h
theorem new_val {w : World} (n x : Nat) (h1 : 1 ≤ n) (h2 : n ≤ 128) (hx : x < 2 ^ 64) : Calls Tryd.prog 6 #[.int .i64 n, .slice (some ⟨w.heap.size, 0, none⟩) 1 1] (w.alloc (.cells #[.int .u64 x] 37)) (RetE (w.alloc (.cells #[.int .u64 x] 37)) n (x % 2 ^ n) 0) := by
  have hr : RO (w.alloc (.cells #[.int .u64 x] 37)) (.slice (some ⟨w.heap.size, 0, none⟩) 1 1) 1 [x].length (natsV [x]) :=
    RO.own ((Blk.new (w := w) 37 [.int .u64 x]).own (n := 1) (size := 1) rfl (by decide) 0 (Nat.zero_le _))
  have h := new_good n h1 h2 _ hr (fun y hy => by simp at hy; omega)
  rw [show valW [x] = x by simp [valW]] at h
  exact h
set_option maxRecDepth 100000 in
set_option maxHeartbeats 8000000 in
theorem awake_any {w : World} (ht : Tab w) : Calls Tryd.prog 4 #[] w fun e w' => e = .returned (.bool true) ∧ Below w.heap.size w w' := by
  have HTab := Lib.hid ht
  clear ht
  have HN1 := Lib.hid (new_val (w := w) 1 1 (by decide) (by decide) (by decide))
  rw [show 1 % 2 ^ 1 = 1 from rfl] at HN1
  have HB0 := Lib.hid (Below.new w (.cells #[.int .u64 1] 37))
  go_enter Tryd.func4, Tryd.ntmps4
  go_wp2_with fail
  refine HN1.out.mono ?_; rintro e w1 ⟨v1, rfl, hv1, hb1, hf1⟩
  obtain ⟨p1, c1, rfl, _⟩ := hv1.ex
  have hbx := Below.new w1 (.cells #[.int .i64 1, .slice p1 (wcount 1) c1] 33)
  have hkx := Blk.new (w := w1) 33 [.int .i64 1, .slice p1 (wcount 1) c1]
  have H1 := Lib.hid (And.intro (hv1.below hbx) (And.intro hkx ((HB0.out.trans (hb1.mono HB0.out.size)).trans (hbx.mono (HB0.out.trans (hb1.mono HB0.out.size)).size))))
  clear hv1 hb1 hf1 hbx hkx HN1 HB0
  go_wp2_with fail
  refine (new_one ⟨rfl, none, 0, rfl, fun j u hu => by simp at hu⟩).mono ?_; rintro e w2 ⟨v2, rfl, hv2, hb2, hf2⟩
  obtain ⟨p2, c2, rfl, _⟩ := hv2.ex
  obtain ⟨g1, hg1⟩ : ∃ g, w1.heap.size = g := ⟨_, rfl⟩
  rw [hg1] at H1 ⊢
  clear hg1
  have k1 := H1.out.2.1.next hb2
  have v1 := H1.out.1.below hb2
  have bw := H1.out.2.2.trans (hb2.mono H1.out.2.2.size)
  have hb_0 := Below.new w2 (.cells #[.int .i64 1, .slice p2 (wcount 1) c2] 33)
  have kn_0 := Blk.new (w := w2) 33 [.int .i64 1, .slice p2 (wcount 1) c2]
  have k1_0 := k1.next hb_0
  have v1_0 := v1.below hb_0
  have v2_0 := hv2.below hb_0
  have bw_0 := Below.next bw hb_0
  have x0 := k1_0.cell (i := 0) rfl
  have y0 := k1_0.cell (i := 1) rfl
  have z0 := kn_0.cell (i := 0) rfl
  have t0 := kn_0.cell (i := 1) rfl
  have hb_1 := Below.new (w2.alloc (.cells #[.int .i64 1, .slice p2 (wcount 1) c2] 33)) (.cells #[.string ⟨#[97]⟩, .int .i64 1] 30)
  have kn_1 := Blk.new (w := (w2.alloc (.cells #[.int .i64 1, .slice p2 (wcount 1) c2] 33))) 30 [.string ⟨#[97]⟩, .int .i64 1]
  simp only [World.size_alloc] at kn_1
  have k1_1 := k1_0.next hb_1
  have v1_1 := v1_0.below hb_1
  have v2_1 := v2_0.below hb_1
  have bw_1 := Below.next bw_0 hb_1
  have kn_0 := kn_0.next hb_1
  have x1 := k1_1.cell (i := 0) rfl
  have y1 := k1_1.cell (i := 1) rfl
  have z1 := kn_0.cell (i := 0) rfl
  have t1 := kn_0.cell (i := 1) rfl
  have hb_2 := Below.new ((w2.alloc (.cells #[.int .i64 1, .slice p2 (wcount 1) c2] 33)).alloc (.cells #[.string ⟨#[97]⟩, .int .i64 1] 30)) (.cells #[.int .i64 1, .slice p1 (wcount 1) c1] 33)
  have kn_2 := Blk.new (w := ((w2.alloc (.cells #[.int .i64 1, .slice p2 (wcount 1) c2] 33)).alloc (.cells #[.string ⟨#[97]⟩, .int .i64 1] 30))) 33 [.int .i64 1, .slice p1 (wcount 1) c1]
  simp only [World.size_alloc] at kn_2
  have k1_2 := k1_1.next hb_2
  have v1_2 := v1_1.below hb_2
  have v2_2 := v2_1.below hb_2
  have bw_2 := Below.next bw_1 hb_2
  have kn_0 := kn_0.next hb_2
  have kn_1 := kn_1.next hb_2
  have x2 := k1_2.cell (i := 0) rfl
  have y2 := k1_2.cell (i := 1) rfl
  have z2 := kn_0.cell (i := 0) rfl
  have t2 := kn_0.cell (i := 1) rfl
  have hb_3 := Below.new (((w2.alloc (.cells #[.int .i64 1, .slice p2 (wcount 1) c2] 33)).alloc (.cells #[.string ⟨#[97]⟩, .int .i64 1] 30)).alloc (.cells #[.int .i64 1, .slice p1 (wcount 1) c1] 33)) (.cells #[.int .i64 1, .slice p1 (wcount 1) c1] 33)
  have kn_3 := Blk.new (w := (((w2.alloc (.cells #[.int .i64 1, .slice p2 (wcount 1) c2] 33)).alloc (.cells #[.string ⟨#[97]⟩, .int .i64 1] 30)).alloc (.cells #[.int .i64 1, .slice p1 (wcount 1) c1] 33))) 33 [.int .i64 1, .slice p1 (wcount 1) c1]
  simp only [World.size_alloc] at kn_3
  have k1_3 := k1_2.next hb_3
  have v1_3 := v1_2.below hb_3
  have v2_3 := v2_2.below hb_3
  have bw_3 := Below.next bw_2 hb_3
  have kn_0 := kn_0.next hb_3
  have kn_1 := kn_1.next hb_3
  have kn_2 := kn_2.next hb_3
  have z3 := kn_0.cell (i := 0) rfl
  have t3 := kn_0.cell (i := 1) rfl
  have hb_4 := Below.new ((((w2.alloc (.cells #[.int .i64 1, .slice p2 (wcount 1) c2] 33)).alloc (.cells #[.string ⟨#[97]⟩, .int .i64 1] 30)).alloc (.cells #[.int .i64 1, .slice p1 (wcount 1) c1] 33)).alloc (.cells #[.int .i64 1, .slice p1 (wcount 1) c1] 33)) (.cells #[.int .i64 1, .slice p2 (wcount 1) c2] 33)
  have kn_4 := Blk.new (w := ((((w2.alloc (.cells #[.int .i64 1, .slice p2 (wcount 1) c2] 33)).alloc (.cells #[.string ⟨#[97]⟩, .int .i64 1] 30)).alloc (.cells #[.int .i64 1, .slice p1 (wcount 1) c1] 33)).alloc (.cells #[.int .i64 1, .slice p1 (wcount 1) c1] 33))) 33 [.int .i64 1, .slice p2 (wcount 1) c2]
  simp only [World.size_alloc] at kn_4
  have k1_4 := k1_3.next hb_4
  have v1_4 := v1_3.below hb_4
  have v2_4 := v2_3.below hb_4
  have bw_4 := Below.next bw_3 hb_4
  have kn_0 := kn_0.next hb_4
  have kn_1 := kn_1.next hb_4
  have kn_2 := kn_2.next hb_4
  have kn_3 := kn_3.next hb_4
  have hb_5 := Below.new (((((w2.alloc (.cells #[.int .i64 1, .slice p2 (wcount 1) c2] 33)).alloc (.cells #[.string ⟨#[97]⟩, .int .i64 1] 30)).alloc (.cells #[.int .i64 1, .slice p1 (wcount 1) c1] 33)).alloc (.cells #[.int .i64 1, .slice p1 (wcount 1) c1] 33)).alloc (.cells #[.int .i64 1, .slice p2 (wcount 1) c2] 33)) (.cells #[.slice (some ⟨w2.heap.size + 1 + 1, 0, none⟩) 1 1, .slice (some ⟨w2.heap.size + 1 + 1 + 1, 0, none⟩) 1 1, .slice (some ⟨w2.heap.size + 1 + 1 + 1 + 1, 0, none⟩) 1 1] 27)
  have kn_5 := Blk.new (w := (((((w2.alloc (.cells #[.int .i64 1, .slice p2 (wcount 1) c2] 33)).alloc (.cells #[.string ⟨#[97]⟩, .int .i64 1] 30)).alloc (.cells #[.int .i64 1, .slice p1 (wcount 1) c1] 33)).alloc (.cells #[.int .i64 1, .slice p1 (wcount 1) c1] 33)).alloc (.cells #[.int .i64 1, .slice p2 (wcount 1) c2] 33))) 27 [.slice (some ⟨w2.heap.size + 1 + 1, 0, none⟩) 1 1, .slice (some ⟨w2.heap.size + 1 + 1 + 1, 0, none⟩) 1 1, .slice (some ⟨w2.heap.size + 1 + 1 + 1 + 1, 0, none⟩) 1 1]
  simp only [World.size_alloc] at kn_5
  have k1_5 := k1_4.next hb_5
  have v1_5 := v1_4.below hb_5
  have v2_5 := v2_4.below hb_5
  have bw_5 := Below.next bw_4 hb_5
  have kn_0 := kn_0.next hb_5
  have kn_1 := kn_1.next hb_5
  have kn_2 := kn_2.next hb_5
  have kn_3 := kn_3.next hb_5
  have kn_4 := kn_4.next hb_5
  have hTr : TrR ((((((w2.alloc (.cells #[.int .i64 1, .slice p2 (wcount 1) c2] 33)).alloc (.cells #[.string ⟨#[97]⟩, .int .i64 1] 30)).alloc (.cells #[.int .i64 1, .slice p1 (wcount 1) c1] 33)).alloc (.cells #[.int .i64 1, .slice p1 (wcount 1) c1] 33)).alloc (.cells #[.int .i64 1, .slice p2 (wcount 1) c2] 33)).alloc (.cells #[.slice (some ⟨w2.heap.size + 1 + 1, 0, none⟩) 1 1, .slice (some ⟨w2.heap.size + 1 + 1 + 1, 0, none⟩) 1 1, .slice (some ⟨w2.heap.size + 1 + 1 + 1 + 1, 0, none⟩) 1 1] 27)) (.agg #[.string ⟨#[109]⟩, .slice (some ⟨w2.heap.size + 1, 0, none⟩) 1 1, .slice (some ⟨w2.heap.size + 1 + 1 + 1 + 1 + 1, 0, none⟩) 3 3]) T0 := by
    refine ⟨⟨_, _, [.slice (some ⟨w2.heap.size + 1 + 1, 0, none⟩) 1 1, .slice (some ⟨w2.heap.size + 1 + 1 + 1, 0, none⟩) 1 1, .slice (some ⟨w2.heap.size + 1 + 1 + 1 + 1, 0, none⟩) 1 1], [[⟨1, p1, c1, 1⟩], [⟨1, p1, c1, 1⟩], [⟨1, p2, c2, 0⟩]], rfl, RO.own (kn_1.own (n := 1) (size := 2) rfl (by decide) 0 (Nat.zero_le _)), RO.own (kn_5.own (n := 3) (size := 1) rfl (by decide) 0 (Nat.zero_le _)), rfl, rfl, fun i v es hv he => ?_⟩, fun s p n c rv e => by cases e; exact Nat.le_refl _⟩
    rcases i with _ | _ | _ | i
    · cases hv; cases he
      exact ⟨RO.own (kn_2.own (n := 1) (size := 2) rfl (by decide) 0 (Nat.zero_le _)), fun e he => by simp at he; subst he; exact v1_5⟩
    · cases hv; cases he
      exact ⟨RO.own (kn_3.own (n := 1) (size := 2) rfl (by decide) 0 (Nat.zero_le _)), fun e he => by simp at he; subst he; exact v1_5⟩
    · cases hv; cases he
      exact ⟨RO.own (kn_4.own (n := 1) (size := 2) rfl (by decide) 0 (Nat.zero_le _)), fun e he => by simp at he; subst he; exact v2_5⟩
    · simp at hv
  have HTr := Lib.hid (And.intro hTr bw_5)
  clear hb_0 kn_0 k1_0 v1_0 v2_0 bw_0 hb_1 kn_1 k1_1 v1_1 v2_1 bw_1 hb_2 kn_2 k1_2 v1_2 v2_2 bw_2 hb_3 kn_3 k1_3 v1_3 v2_3 bw_3 hb_4 kn_4 k1_4 v1_4 v2_4 bw_4 hb_5 kn_5 k1_5 v1_5 v2_5 bw_5 k1 v1 bw hv2 hb2 hf2 hTr
  go_wp2_with fail
  have HW := Lib.hid (write_good HTr.out.1 t0_ok t0_check (by rw [t0_text]; decide) (tab_below HTab.out HTr.out.2))
  rw [t0_text] at HW
  refine HW.out.mono ?_; rintro e w9 ⟨rfl, hb9⟩
  have H9 := Lib.hid (HTr.out.2.trans (hb9.mono HTr.out.2.size))
  have hl : (bstr t0L).toList = t0L := bstr_toList _
  clear hb9 HW x0 y0 x1 y1 x2 y2 z0 t0 z1 t1 z2 t2 z3 t3
  generalize bstr t0L = X at *
  go_wp2_with fail
  go_ret
  exact ⟨congrArg (fun b => Ending.returned (Value.bool b)) (by decide +kernel), H9.out⟩
end Go.Proofs.YtcdjkbgedmehjaaDoor
