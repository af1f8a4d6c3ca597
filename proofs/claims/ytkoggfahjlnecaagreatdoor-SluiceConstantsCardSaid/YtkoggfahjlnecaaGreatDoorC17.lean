import Derived.Test.YtkoggfahjlnecaaGreatDoorC16
namespace Go.Proofs.YtkoggfahjlnecaaGreatDoor
set_option linter.unusedVariables false
open Go.RowKit Go.Sort

/-! # typed: the makers of expressions -/
abbrev zE : List Value := [.int .i64 0, .int .i64 0, .int .i64 0, .int .i64 0, .int .i64 0, .bool false, .int .i64 0, .slice none 0 0, .slice none 0 0]
theorem sizeTE : (Tryz.prog.info? 42).map (·.size) = some 9 := by kernel_rfl
theorem Blk.far {b c t : Nat} {l : List Value} (hne : b ≠ c) : ∀ (vs : List Value) (o : Nat) {w : World}, Blk w b t l → Blk (w.setCells c o vs) b t l
  | [], _, _, h => h
  | v :: r, o, _, h => Blk.far hne r (o + 1) (h.other (a := ⟨c, o, none⟩) v hne)
set_option maxRecDepth 100000 in
set_option maxHeartbeats 4000000 in
theorem part_any {w : World} {k op vw : Int} {vp ap : Option Addr} {vn vc an ac : Nat} : Calls Tryz.prog 37 #[.agg #[.int .i64 k, .int .i64 op, .int .i64 32, .int .i64 0, .int .i64 0, .bool false, .int .i64 vw, .slice vp vn vc, .slice ap an ac], .int .i64 0, .int .i64 32] w fun r w' => r = .returned (.agg #[.int .i64 k, .int .i64 op, .int .i64 32, .int .i64 0, .int .i64 0, .bool false, .int .i64 vw, .slice vp vn vc, .slice ap an ac]) ∧ Below w.heap.size w w' := by
  have g1 := Below.new w (.cells #[.int .i64 k, .int .i64 op, .int .i64 32, .int .i64 0, .int .i64 0, .bool false, .int .i64 vw, .slice vp vn vc, .slice ap an ac] 42)
  have g2 := Below.new (w.alloc (.cells #[.int .i64 k, .int .i64 op, .int .i64 32, .int .i64 0, .int .i64 0, .bool false, .int .i64 vw, .slice vp vn vc, .slice ap an ac] 42)) (.cells #[.int .i64 0, .int .i64 0, .int .i64 0, .int .i64 0, .int .i64 0, .bool false, .int .i64 0, .slice none 0 0, .slice none 0 0] 42)
  have H := Lib.hid (And.intro ((Blk.new (w := w) 42 [.int .i64 k, .int .i64 op, .int .i64 32, .int .i64 0, .int .i64 0, .bool false, .int .i64 vw, .slice vp vn vc, .slice ap an ac]).next g2) (And.intro (Blk.new (w := (w.alloc (.cells #[.int .i64 k, .int .i64 op, .int .i64 32, .int .i64 0, .int .i64 0, .bool false, .int .i64 vw, .slice vp vn vc, .slice ap an ac] 42))) 42 [.int .i64 0, .int .i64 0, .int .i64 0, .int .i64 0, .int .i64 0, .bool false, .int .i64 0, .slice none 0 0, .slice none 0 0]) (Below.next g1 g2)))
  simp only [World.size_alloc] at H
  clear g1 g2
  go_enter Tryz.func37, Tryz.ntmps37
  go_upto_region 1 with fail
  change Hid (Blk ((w.alloc (.cells #[.int .i64 k, .int .i64 op, .int .i64 32, .int .i64 0, .int .i64 0, .bool false, .int .i64 vw, .slice vp vn vc, .slice ap an ac] 42)).alloc (.cells #[.int .i64 0, .int .i64 0, .int .i64 0, .int .i64 0, .int .i64 0, .bool false, .int .i64 0, .slice none 0 0, .slice none 0 0] 42)) _ _ _ ∧ _) at H
  generalize ((w.alloc (.cells #[.int .i64 k, .int .i64 op, .int .i64 32, .int .i64 0, .int .i64 0, .bool false, .int .i64 vw, .slice vp vn vc, .slice ap an ac] 42)).alloc (.cells #[.int .i64 0, .int .i64 0, .int .i64 0, .int .i64 0, .int .i64 0, .bool false, .int .i64 0, .slice none 0 0, .slice none 0 0] 42)) = w1 at *
  obtain ⟨b0, hb0⟩ : ∃ b, w.heap.size = b := ⟨_, rfl⟩
  obtain ⟨b1, hb1⟩ : ∃ b, b0 + 1 = b := ⟨_, rfl⟩
  rw [hb0] at H ⊢
  rw [hb1] at H ⊢
  have HB := Lib.hid (And.intro hb0 hb1)
  clear hb0 hb1
  have x0 := H.out.1.cell (i := 0) rfl
  have x1 := H.out.1.cell (i := 1) rfl
  have x2 := H.out.1.cell (i := 2) rfl
  have x3 := H.out.1.cell (i := 3) rfl
  have x4 := H.out.1.cell (i := 4) rfl
  have x5 := H.out.1.cell (i := 5) rfl
  have x6 := H.out.1.cell (i := 6) rfl
  have x7 := H.out.1.cell (i := 7) rfl
  have x8 := H.out.1.cell (i := 8) rfl
  have r0 := H.out.2.1.cell (i := 0) rfl
  have r1 := H.out.2.1.cell (i := 1) rfl
  have r2 := H.out.2.1.cell (i := 2) rfl
  have r3 := H.out.2.1.cell (i := 3) rfl
  have r4 := H.out.2.1.cell (i := 4) rfl
  have r5 := H.out.2.1.cell (i := 5) rfl
  have r6 := H.out.2.1.cell (i := 6) rfl
  have r7 := H.out.2.1.cell (i := 7) rfl
  have r8 := H.out.2.1.cell (i := 8) rfl
  have f0 := H.out.2.1.frz 0
  have f1 := H.out.2.1.frz 1
  have f2 := H.out.2.1.frz 2
  have f3 := H.out.2.1.frz 3
  have f4 := H.out.2.1.frz 4
  have f5 := H.out.2.1.frz 5
  have f6 := H.out.2.1.frz 6
  have f7 := H.out.2.1.frz 7
  have f8 := H.out.2.1.frz 8
  go_wp2_with fail
  have hk9 := H.out.2.1.put [.int .i64 k, .int .i64 op, .int .i64 32, .int .i64 0, .int .i64 0, .bool false, .int .i64 vw, .slice vp vn vc, .slice ap an ac] rfl
  have hb9 := Below.sets (b := b1) (by have := HB.out; omega) [.int .i64 k, .int .i64 op, .int .i64 32, .int .i64 0, .int .i64 0, .bool false, .int .i64 vw, .slice vp vn vc, .slice ap an ac] 0 H.out.2.2
  exact bodyPost_ret (v := .agg #[.int .i64 k, .int .i64 op, .int .i64 32, .int .i64 0, .int .i64 0, .bool false, .int .i64 vw, .slice vp vn vc, .slice ap an ac]) (results_cell_row rfl _ _ b1 _ _ _ _ rfl hk9 Tryz.underlying42 rfl sizeTE) rfl ⟨rfl, by rw [HB.out.1]; exact hb9⟩
set_option maxRecDepth 100000 in
set_option maxHeartbeats 4000000 in
theorem wide_any {w : World} {k op vw : Int} {vp ap : Option Addr} {vn vc an ac : Nat} : Calls Tryz.prog 73 #[.agg #[.int .i64 k, .int .i64 op, .int .i64 32, .int .i64 0, .int .i64 0, .bool false, .int .i64 vw, .slice vp vn vc, .slice ap an ac], .int .i64 32, .bool true] w fun r w' => r = .returned (.agg #[.int .i64 k, .int .i64 op, .int .i64 32, .int .i64 0, .int .i64 0, .bool false, .int .i64 vw, .slice vp vn vc, .slice ap an ac]) ∧ Below w.heap.size w w' := by
  have HP := Lib.hid (fun w : World => part_any (w := w) (k := k) (op := op) (vw := vw) (vp := vp) (ap := ap) (vn := vn) (vc := vc) (an := an) (ac := ac))
  have g1 := Below.new w (.cells #[.int .i64 k, .int .i64 op, .int .i64 32, .int .i64 0, .int .i64 0, .bool false, .int .i64 vw, .slice vp vn vc, .slice ap an ac] 42)
  have g2 := Below.new (w.alloc (.cells #[.int .i64 k, .int .i64 op, .int .i64 32, .int .i64 0, .int .i64 0, .bool false, .int .i64 vw, .slice vp vn vc, .slice ap an ac] 42)) (.cells #[.int .i64 0, .int .i64 0, .int .i64 0, .int .i64 0, .int .i64 0, .bool false, .int .i64 0, .slice none 0 0, .slice none 0 0] 42)
  have H := Lib.hid (And.intro ((Blk.new (w := w) 42 [.int .i64 k, .int .i64 op, .int .i64 32, .int .i64 0, .int .i64 0, .bool false, .int .i64 vw, .slice vp vn vc, .slice ap an ac]).next g2) (And.intro (Blk.new (w := (w.alloc (.cells #[.int .i64 k, .int .i64 op, .int .i64 32, .int .i64 0, .int .i64 0, .bool false, .int .i64 vw, .slice vp vn vc, .slice ap an ac] 42))) 42 [.int .i64 0, .int .i64 0, .int .i64 0, .int .i64 0, .int .i64 0, .bool false, .int .i64 0, .slice none 0 0, .slice none 0 0]) (Below.next g1 g2)))
  simp only [World.size_alloc] at H
  clear g1 g2
  go_enter Tryz.func73, Tryz.ntmps73
  go_upto_region 1 with fail
  change Hid (Blk ((w.alloc (.cells #[.int .i64 k, .int .i64 op, .int .i64 32, .int .i64 0, .int .i64 0, .bool false, .int .i64 vw, .slice vp vn vc, .slice ap an ac] 42)).alloc (.cells #[.int .i64 0, .int .i64 0, .int .i64 0, .int .i64 0, .int .i64 0, .bool false, .int .i64 0, .slice none 0 0, .slice none 0 0] 42)) _ _ _ ∧ _) at H
  generalize ((w.alloc (.cells #[.int .i64 k, .int .i64 op, .int .i64 32, .int .i64 0, .int .i64 0, .bool false, .int .i64 vw, .slice vp vn vc, .slice ap an ac] 42)).alloc (.cells #[.int .i64 0, .int .i64 0, .int .i64 0, .int .i64 0, .int .i64 0, .bool false, .int .i64 0, .slice none 0 0, .slice none 0 0] 42)) = w1 at *
  obtain ⟨b0, hb0⟩ : ∃ b, w.heap.size = b := ⟨_, rfl⟩
  obtain ⟨b1, hb1⟩ : ∃ b, b0 + 1 = b := ⟨_, rfl⟩
  rw [hb0] at H ⊢
  rw [hb1] at H ⊢
  have HB := Lib.hid (And.intro hb0 hb1)
  clear hb0 hb1
  have x0 := H.out.1.cell (i := 0) rfl
  have x1 := H.out.1.cell (i := 1) rfl
  have x2 := H.out.1.cell (i := 2) rfl
  have x3 := H.out.1.cell (i := 3) rfl
  have x4 := H.out.1.cell (i := 4) rfl
  have x5 := H.out.1.cell (i := 5) rfl
  have x6 := H.out.1.cell (i := 6) rfl
  have x7 := H.out.1.cell (i := 7) rfl
  have x8 := H.out.1.cell (i := 8) rfl
  go_wp2_with fail
  refine (HP.out _).mono ?_; rintro r w2 ⟨rfl, hb2⟩
  have H2 := Lib.hid (And.intro (H.out.2.1.next hb2) (Below.trans H.out.2.2 (hb2.mono (by have h := H.out.1.lt; have := HB.out.1; omega))))
  clear hb2 x0 x1 x2 x3 x4 x5 x6 x7 x8 H HP
  have r0 := H2.out.1.cell (i := 0) rfl
  have r1 := H2.out.1.cell (i := 1) rfl
  have r2 := H2.out.1.cell (i := 2) rfl
  have r3 := H2.out.1.cell (i := 3) rfl
  have r4 := H2.out.1.cell (i := 4) rfl
  have r5 := H2.out.1.cell (i := 5) rfl
  have r6 := H2.out.1.cell (i := 6) rfl
  have r7 := H2.out.1.cell (i := 7) rfl
  have r8 := H2.out.1.cell (i := 8) rfl
  have f0 := H2.out.1.frz 0
  have f1 := H2.out.1.frz 1
  have f2 := H2.out.1.frz 2
  have f3 := H2.out.1.frz 3
  have f4 := H2.out.1.frz 4
  have f5 := H2.out.1.frz 5
  have f6 := H2.out.1.frz 6
  have f7 := H2.out.1.frz 7
  have f8 := H2.out.1.frz 8
  go_wp2_with fail
  have hk9 := H2.out.1.put [.int .i64 k, .int .i64 op, .int .i64 32, .int .i64 0, .int .i64 0, .bool false, .int .i64 vw, .slice vp vn vc, .slice ap an ac] rfl
  have hb9 := Below.sets (b := b1) (by have := HB.out; omega) [.int .i64 k, .int .i64 op, .int .i64 32, .int .i64 0, .int .i64 0, .bool false, .int .i64 vw, .slice vp vn vc, .slice ap an ac] 0 H2.out.2
  exact bodyPost_ret (v := .agg #[.int .i64 k, .int .i64 op, .int .i64 32, .int .i64 0, .int .i64 0, .bool false, .int .i64 vw, .slice vp vn vc, .slice ap an ac]) (results_cell_row rfl _ _ b1 _ _ _ _ rfl hk9 Tryz.underlying42 rfl sizeTE) rfl ⟨rfl, by rw [HB.out.1]; exact hb9⟩
set_option maxRecDepth 100000 in
set_option maxHeartbeats 4000000 in
theorem ttwo_any {w : World} {o : Int} (ho : o < 13) {ka opa vwa kb opb vwb : Int} {vpa apa vpb apb : Option Addr} {vna vca ana aca vnb vcb anb acb : Nat} : Calls Tryz.prog 106 #[.int .i64 o, .agg #[.int .i64 ka, .int .i64 opa, .int .i64 32, .int .i64 0, .int .i64 0, .bool false, .int .i64 vwa, .slice vpa vna vca, .slice apa ana aca], .agg #[.int .i64 kb, .int .i64 opb, .int .i64 32, .int .i64 0, .int .i64 0, .bool false, .int .i64 vwb, .slice vpb vnb vcb, .slice apb anb acb]] w fun r w' => ∃ L, r = .returned (.agg #[.int .i64 7, .int .i64 o, .int .i64 32, .int .i64 0, .int .i64 0, .bool false, .int .i64 0, .slice none 0 0, .slice (some ⟨L, 0, none⟩) 2 2]) ∧ Blk w' L 42 [.int .i64 ka, .int .i64 opa, .int .i64 32, .int .i64 0, .int .i64 0, .bool false, .int .i64 vwa, .slice vpa vna vca, .slice apa ana aca, .int .i64 kb, .int .i64 opb, .int .i64 32, .int .i64 0, .int .i64 0, .bool false, .int .i64 vwb, .slice vpb vnb vcb, .slice apb anb acb] ∧ w.heap.size ≤ L ∧ Below w.heap.size w w' := by
  have h13 : ¬ (13 : Int) ≤ o := by omega
  clear ho
  have g1 := Below.new w (.cells #[.int .i64 ka, .int .i64 opa, .int .i64 32, .int .i64 0, .int .i64 0, .bool false, .int .i64 vwa, .slice vpa vna vca, .slice apa ana aca] 42)
  have g2 := Below.new (w.alloc (.cells #[.int .i64 ka, .int .i64 opa, .int .i64 32, .int .i64 0, .int .i64 0, .bool false, .int .i64 vwa, .slice vpa vna vca, .slice apa ana aca] 42)) (.cells #[.int .i64 kb, .int .i64 opb, .int .i64 32, .int .i64 0, .int .i64 0, .bool false, .int .i64 vwb, .slice vpb vnb vcb, .slice apb anb acb] 42)
  have g3 := Below.new ((w.alloc (.cells #[.int .i64 ka, .int .i64 opa, .int .i64 32, .int .i64 0, .int .i64 0, .bool false, .int .i64 vwa, .slice vpa vna vca, .slice apa ana aca] 42)).alloc (.cells #[.int .i64 kb, .int .i64 opb, .int .i64 32, .int .i64 0, .int .i64 0, .bool false, .int .i64 vwb, .slice vpb vnb vcb, .slice apb anb acb] 42)) (.cells #[.int .i64 0, .int .i64 0, .int .i64 0, .int .i64 0, .int .i64 0, .bool false, .int .i64 0, .slice none 0 0, .slice none 0 0] 42)
  have H := Lib.hid (And.intro ((Blk.new (w := w) 42 [.int .i64 ka, .int .i64 opa, .int .i64 32, .int .i64 0, .int .i64 0, .bool false, .int .i64 vwa, .slice vpa vna vca, .slice apa ana aca]).next (Below.next g2 g3)) (And.intro ((Blk.new (w := (w.alloc (.cells #[.int .i64 ka, .int .i64 opa, .int .i64 32, .int .i64 0, .int .i64 0, .bool false, .int .i64 vwa, .slice vpa vna vca, .slice apa ana aca] 42))) 42 [.int .i64 kb, .int .i64 opb, .int .i64 32, .int .i64 0, .int .i64 0, .bool false, .int .i64 vwb, .slice vpb vnb vcb, .slice apb anb acb]).next g3) (And.intro (Blk.new (w := ((w.alloc (.cells #[.int .i64 ka, .int .i64 opa, .int .i64 32, .int .i64 0, .int .i64 0, .bool false, .int .i64 vwa, .slice vpa vna vca, .slice apa ana aca] 42)).alloc (.cells #[.int .i64 kb, .int .i64 opb, .int .i64 32, .int .i64 0, .int .i64 0, .bool false, .int .i64 vwb, .slice vpb vnb vcb, .slice apb anb acb] 42))) 42 [.int .i64 0, .int .i64 0, .int .i64 0, .int .i64 0, .int .i64 0, .bool false, .int .i64 0, .slice none 0 0, .slice none 0 0]) (Below.next (Below.next g1 g2) g3))))
  simp only [World.size_alloc] at H
  clear g1 g2 g3
  go_enter Tryz.func106, Tryz.ntmps106
  go_upto_region 1 with fail
  change Hid (Blk (((w.alloc (.cells #[.int .i64 ka, .int .i64 opa, .int .i64 32, .int .i64 0, .int .i64 0, .bool false, .int .i64 vwa, .slice vpa vna vca, .slice apa ana aca] 42)).alloc (.cells #[.int .i64 kb, .int .i64 opb, .int .i64 32, .int .i64 0, .int .i64 0, .bool false, .int .i64 vwb, .slice vpb vnb vcb, .slice apb anb acb] 42)).alloc (.cells #[.int .i64 0, .int .i64 0, .int .i64 0, .int .i64 0, .int .i64 0, .bool false, .int .i64 0, .slice none 0 0, .slice none 0 0] 42)) _ _ _ ∧ _) at H
  generalize (((w.alloc (.cells #[.int .i64 ka, .int .i64 opa, .int .i64 32, .int .i64 0, .int .i64 0, .bool false, .int .i64 vwa, .slice vpa vna vca, .slice apa ana aca] 42)).alloc (.cells #[.int .i64 kb, .int .i64 opb, .int .i64 32, .int .i64 0, .int .i64 0, .bool false, .int .i64 vwb, .slice vpb vnb vcb, .slice apb anb acb] 42)).alloc (.cells #[.int .i64 0, .int .i64 0, .int .i64 0, .int .i64 0, .int .i64 0, .bool false, .int .i64 0, .slice none 0 0, .slice none 0 0] 42)) = w1 at *
  obtain ⟨b0, hb0⟩ : ∃ b, w.heap.size = b := ⟨_, rfl⟩
  obtain ⟨b1, hb1⟩ : ∃ b, b0 + 1 = b := ⟨_, rfl⟩
  obtain ⟨b2, hb2⟩ : ∃ b, b1 + 1 = b := ⟨_, rfl⟩
  rw [hb0] at H ⊢
  rw [hb1] at H ⊢
  rw [hb2] at H ⊢
  have HB := Lib.hid (And.intro hb0 (And.intro hb1 hb2))
  clear hb0 hb1 hb2
  have HG0 := Lib.hid (show w1.rangeAt b0 0 [.int .i64 ka, .int .i64 opa, .int .i64 32, .int .i64 0, .int .i64 0, .bool false, .int .i64 vwa, .slice vpa vna vca, .slice apa ana aca] from fun j u hj => by rw [Nat.zero_add]; exact H.out.1.cell hj)
  have HG1 := Lib.hid (show w1.rangeAt b1 0 [.int .i64 kb, .int .i64 opb, .int .i64 32, .int .i64 0, .int .i64 0, .bool false, .int .i64 vwb, .slice vpb vnb vcb, .slice apb anb acb] from fun j u hj => by rw [Nat.zero_add]; exact H.out.2.1.cell hj)
  have x2 := H.out.1.cell (i := 2) rfl
  have gl := Below.new w1 (.cells #[.int .i64 ka, .int .i64 opa, .int .i64 32, .int .i64 0, .int .i64 0, .bool false, .int .i64 vwa, .slice vpa vna vca, .slice apa ana aca, .int .i64 kb, .int .i64 opb, .int .i64 32, .int .i64 0, .int .i64 0, .bool false, .int .i64 vwb, .slice vpb vnb vcb, .slice apb anb acb] 42)
  have hl := Blk.new (w := w1) 42 [.int .i64 ka, .int .i64 opa, .int .i64 32, .int .i64 0, .int .i64 0, .bool false, .int .i64 vwa, .slice vpa vna vca, .slice apa ana aca, .int .i64 kb, .int .i64 opb, .int .i64 32, .int .i64 0, .int .i64 0, .bool false, .int .i64 vwb, .slice vpb vnb vcb, .slice apb anb acb]
  have hres := H.out.2.2.1.next gl
  have HT : Hid ((w1.alloc (.cells #[.int .i64 ka, .int .i64 opa, .int .i64 32, .int .i64 0, .int .i64 0, .bool false, .int .i64 vwa, .slice vpa vna vca, .slice apa ana aca, .int .i64 kb, .int .i64 opb, .int .i64 32, .int .i64 0, .int .i64 0, .bool false, .int .i64 vwb, .slice vpb vnb vcb, .slice apb anb acb] 42)).there b2 0 9) := Lib.hid (fun j hj => by rw [Nat.zero_add]; exact ⟨by rw [hres.cell (List.getElem?_eq_getElem hj)]; rfl, hres.frz j⟩)
  have H2 := Lib.hid (And.intro hres (And.intro (Below.trans H.out.2.2.2 (gl.mono (by have h := H.out.1.lt; have := HB.out.1; omega))) (And.intro hl H.out.2.2.1.lt)))
  change Hid (Blk (w1.alloc (.cells #[.int .i64 ka, .int .i64 opa, .int .i64 32, .int .i64 0, .int .i64 0, .bool false, .int .i64 vwa, .slice vpa vna vca, .slice apa ana aca, .int .i64 kb, .int .i64 opb, .int .i64 32, .int .i64 0, .int .i64 0, .bool false, .int .i64 vwb, .slice vpb vnb vcb, .slice apb anb acb] 42)) _ _ _ ∧ _) at H2
  clear gl hl hres
  go_wp2_with ((first | (refine wpList_load_mid rfl 42 _ rfl b0 0 rfl [.int .i64 ka, .int .i64 opa, .int .i64 32, .int .i64 0, .int .i64 0, .bool false, .int .i64 vwa, .slice vpa vna vca, .slice apa ana aca] _ HG0.out Tryz.underlying42 rfl sizeTE ?_) | (refine wpList_load_mid rfl 42 _ rfl b1 0 rfl [.int .i64 kb, .int .i64 opb, .int .i64 32, .int .i64 0, .int .i64 0, .bool false, .int .i64 vwb, .slice vpb vnb vcb, .slice apb anb acb] _ HG1.out Tryz.underlying42 rfl sizeTE ?_) | (refine wpList_store_mid rfl 42 _ _ rfl b2 0 #[.int .i64 7, .int .i64 o, .int .i64 32, .int .i64 0, .int .i64 0, .bool false, .int .i64 0, .slice none 0 0, .slice (some ⟨w1.heap.size, 0, none⟩) 2 2] rfl rfl HT.out sizeTE (by kernel_rfl) ?_)))
  have hlf : Blk ((w1.alloc (.cells #[.int .i64 ka, .int .i64 opa, .int .i64 32, .int .i64 0, .int .i64 0, .bool false, .int .i64 vwa, .slice vpa vna vca, .slice apa ana aca, .int .i64 kb, .int .i64 opb, .int .i64 32, .int .i64 0, .int .i64 0, .bool false, .int .i64 vwb, .slice vpb vnb vcb, .slice apb anb acb] 42)).setCells b2 0 [.int .i64 7, .int .i64 o, .int .i64 32, .int .i64 0, .int .i64 0, .bool false, .int .i64 0, .slice none 0 0, .slice (some ⟨w1.heap.size, 0, none⟩) 2 2]) w1.heap.size 42 [.int .i64 ka, .int .i64 opa, .int .i64 32, .int .i64 0, .int .i64 0, .bool false, .int .i64 vwa, .slice vpa vna vca, .slice apa ana aca, .int .i64 kb, .int .i64 opb, .int .i64 32, .int .i64 0, .int .i64 0, .bool false, .int .i64 vwb, .slice vpb vnb vcb, .slice apb anb acb] := Blk.far (Ne.symm (Nat.ne_of_lt H2.out.2.2.2)) _ 0 H2.out.2.2.1
  have hk9 := H2.out.1.put [.int .i64 7, .int .i64 o, .int .i64 32, .int .i64 0, .int .i64 0, .bool false, .int .i64 0, .slice none 0 0, .slice (some ⟨w1.heap.size, 0, none⟩) 2 2] rfl
  have hb9 := Below.sets (b := b2) (by have := HB.out; omega) [.int .i64 7, .int .i64 o, .int .i64 32, .int .i64 0, .int .i64 0, .bool false, .int .i64 0, .slice none 0 0, .slice (some ⟨w1.heap.size, 0, none⟩) 2 2] 0 H2.out.2.1
  exact bodyPost_ret (v := .agg #[.int .i64 7, .int .i64 o, .int .i64 32, .int .i64 0, .int .i64 0, .bool false, .int .i64 0, .slice none 0 0, .slice (some ⟨w1.heap.size, 0, none⟩) 2 2]) (results_cell_row rfl _ _ b2 _ _ _ _ rfl hk9 Tryz.underlying42 rfl sizeTE) rfl ⟨w1.heap.size, rfl, hlf, by have := HB.out; have := H2.out.2.2.2; omega, by rw [HB.out.1]; exact hb9⟩
set_option maxRecDepth 100000 in
set_option maxHeartbeats 4000000 in
theorem tone_any {w : World} {k op vw : Int} {vp ap : Option Addr} {vn vc an ac : Nat} : Calls Tryz.prog 68 #[.int .i64 0, .agg #[.int .i64 k, .int .i64 op, .int .i64 32, .int .i64 0, .int .i64 0, .bool false, .int .i64 vw, .slice vp vn vc, .slice ap an ac]] w fun r w' => ∃ L, r = .returned (.agg #[.int .i64 6, .int .i64 0, .int .i64 32, .int .i64 0, .int .i64 0, .bool false, .int .i64 0, .slice none 0 0, .slice (some ⟨L, 0, none⟩) 1 1]) ∧ Blk w' L 42 [.int .i64 k, .int .i64 op, .int .i64 32, .int .i64 0, .int .i64 0, .bool false, .int .i64 vw, .slice vp vn vc, .slice ap an ac] ∧ w.heap.size ≤ L ∧ Below w.heap.size w w' := by
  have g1 := Below.new w (.cells #[.int .i64 k, .int .i64 op, .int .i64 32, .int .i64 0, .int .i64 0, .bool false, .int .i64 vw, .slice vp vn vc, .slice ap an ac] 42)
  have g2 := Below.new (w.alloc (.cells #[.int .i64 k, .int .i64 op, .int .i64 32, .int .i64 0, .int .i64 0, .bool false, .int .i64 vw, .slice vp vn vc, .slice ap an ac] 42)) (.cells #[.int .i64 0, .int .i64 0, .int .i64 0, .int .i64 0, .int .i64 0, .bool false, .int .i64 0, .slice none 0 0, .slice none 0 0] 42)
  have H := Lib.hid (And.intro ((Blk.new (w := w) 42 [.int .i64 k, .int .i64 op, .int .i64 32, .int .i64 0, .int .i64 0, .bool false, .int .i64 vw, .slice vp vn vc, .slice ap an ac]).next g2) (And.intro (Blk.new (w := (w.alloc (.cells #[.int .i64 k, .int .i64 op, .int .i64 32, .int .i64 0, .int .i64 0, .bool false, .int .i64 vw, .slice vp vn vc, .slice ap an ac] 42))) 42 [.int .i64 0, .int .i64 0, .int .i64 0, .int .i64 0, .int .i64 0, .bool false, .int .i64 0, .slice none 0 0, .slice none 0 0]) (Below.next g1 g2)))
  simp only [World.size_alloc] at H
  clear g1 g2
  go_enter Tryz.func68, Tryz.ntmps68
  go_upto_region 1 with fail
  change Hid (Blk ((w.alloc (.cells #[.int .i64 k, .int .i64 op, .int .i64 32, .int .i64 0, .int .i64 0, .bool false, .int .i64 vw, .slice vp vn vc, .slice ap an ac] 42)).alloc (.cells #[.int .i64 0, .int .i64 0, .int .i64 0, .int .i64 0, .int .i64 0, .bool false, .int .i64 0, .slice none 0 0, .slice none 0 0] 42)) _ _ _ ∧ _) at H
  generalize ((w.alloc (.cells #[.int .i64 k, .int .i64 op, .int .i64 32, .int .i64 0, .int .i64 0, .bool false, .int .i64 vw, .slice vp vn vc, .slice ap an ac] 42)).alloc (.cells #[.int .i64 0, .int .i64 0, .int .i64 0, .int .i64 0, .int .i64 0, .bool false, .int .i64 0, .slice none 0 0, .slice none 0 0] 42)) = w1 at *
  obtain ⟨b0, hb0⟩ : ∃ b, w.heap.size = b := ⟨_, rfl⟩
  obtain ⟨b1, hb1⟩ : ∃ b, b0 + 1 = b := ⟨_, rfl⟩
  rw [hb0] at H ⊢
  rw [hb1] at H ⊢
  have HB := Lib.hid (And.intro hb0 hb1)
  clear hb0 hb1
  have HG0 := Lib.hid (show w1.rangeAt b0 0 [.int .i64 k, .int .i64 op, .int .i64 32, .int .i64 0, .int .i64 0, .bool false, .int .i64 vw, .slice vp vn vc, .slice ap an ac] from fun j u hj => by rw [Nat.zero_add]; exact H.out.1.cell hj)
  have x2 := H.out.1.cell (i := 2) rfl
  have gl := Below.new w1 (.cells #[.int .i64 k, .int .i64 op, .int .i64 32, .int .i64 0, .int .i64 0, .bool false, .int .i64 vw, .slice vp vn vc, .slice ap an ac] 42)
  have hl := Blk.new (w := w1) 42 [.int .i64 k, .int .i64 op, .int .i64 32, .int .i64 0, .int .i64 0, .bool false, .int .i64 vw, .slice vp vn vc, .slice ap an ac]
  have hres := H.out.2.1.next gl
  have HT : Hid ((w1.alloc (.cells #[.int .i64 k, .int .i64 op, .int .i64 32, .int .i64 0, .int .i64 0, .bool false, .int .i64 vw, .slice vp vn vc, .slice ap an ac] 42)).there b1 0 9) := Lib.hid (fun j hj => by rw [Nat.zero_add]; exact ⟨by rw [hres.cell (List.getElem?_eq_getElem hj)]; rfl, hres.frz j⟩)
  have H2 := Lib.hid (And.intro hres (And.intro (Below.trans H.out.2.2 (gl.mono (by have h := H.out.1.lt; have := HB.out.1; omega))) (And.intro hl H.out.2.1.lt)))
  change Hid (Blk (w1.alloc (.cells #[.int .i64 k, .int .i64 op, .int .i64 32, .int .i64 0, .int .i64 0, .bool false, .int .i64 vw, .slice vp vn vc, .slice ap an ac] 42)) _ _ _ ∧ _) at H2
  clear gl hl hres
  go_wp2_with ((first | (refine wpList_load_mid rfl 42 _ rfl b0 0 rfl [.int .i64 k, .int .i64 op, .int .i64 32, .int .i64 0, .int .i64 0, .bool false, .int .i64 vw, .slice vp vn vc, .slice ap an ac] _ HG0.out Tryz.underlying42 rfl sizeTE ?_) | (refine wpList_store_mid rfl 42 _ _ rfl b1 0 #[.int .i64 6, .int .i64 0, .int .i64 32, .int .i64 0, .int .i64 0, .bool false, .int .i64 0, .slice none 0 0, .slice (some ⟨w1.heap.size, 0, none⟩) 1 1] rfl rfl HT.out sizeTE (by kernel_rfl) ?_)))
  have hlf : Blk ((w1.alloc (.cells #[.int .i64 k, .int .i64 op, .int .i64 32, .int .i64 0, .int .i64 0, .bool false, .int .i64 vw, .slice vp vn vc, .slice ap an ac] 42)).setCells b1 0 [.int .i64 6, .int .i64 0, .int .i64 32, .int .i64 0, .int .i64 0, .bool false, .int .i64 0, .slice none 0 0, .slice (some ⟨w1.heap.size, 0, none⟩) 1 1]) w1.heap.size 42 [.int .i64 k, .int .i64 op, .int .i64 32, .int .i64 0, .int .i64 0, .bool false, .int .i64 vw, .slice vp vn vc, .slice ap an ac] := Blk.far (Ne.symm (Nat.ne_of_lt H2.out.2.2.2)) _ 0 H2.out.2.2.1
  have hk9 := H2.out.1.put [.int .i64 6, .int .i64 0, .int .i64 32, .int .i64 0, .int .i64 0, .bool false, .int .i64 0, .slice none 0 0, .slice (some ⟨w1.heap.size, 0, none⟩) 1 1] rfl
  have hb9 := Below.sets (b := b1) (by have := HB.out; omega) [.int .i64 6, .int .i64 0, .int .i64 32, .int .i64 0, .int .i64 0, .bool false, .int .i64 0, .slice none 0 0, .slice (some ⟨w1.heap.size, 0, none⟩) 1 1] 0 H2.out.2.1
  exact bodyPost_ret (v := .agg #[.int .i64 6, .int .i64 0, .int .i64 32, .int .i64 0, .int .i64 0, .bool false, .int .i64 0, .slice none 0 0, .slice (some ⟨w1.heap.size, 0, none⟩) 1 1]) (results_cell_row rfl _ _ b1 _ _ _ _ rfl hk9 Tryz.underlying42 rfl sizeTE) rfl ⟨w1.heap.size, rfl, hlf, by have := HB.out; have := H2.out.2.2.2; omega, by rw [HB.out.1]; exact hb9⟩
end Go.Proofs.YtkoggfahjlnecaaGreatDoor
