import Derived.Test.YtkoggfahjlnecaaGreatDoorC25
namespace Go.Proofs.YtkoggfahjlnecaaGreatDoor
set_option linter.unusedVariables false
open Go.RowKit Go.Sort

/-! # typed.Eval -/
theorem mk_vec0 (w : World) : (Instr.makeSlice 84 (.int .i64 0) (.int .i64 0)).run Tryz.prog w = .ok (.slice (some ⟨w.heap.size, 0, none⟩) 0 0) (w.alloc (.cells #[] 39)) := by kernel_rfl
theorem mk_vec1 (w : World) : (Instr.makeSlice 84 (.int .i64 1) (.int .i64 1)).run Tryz.prog w = .ok (.slice (some ⟨w.heap.size, 0, none⟩) 1 1) (w.alloc (.cells #[.int .i64 0, .slice none 0 0] 39)) := by kernel_rfl
theorem mk_vec2 (w : World) : (Instr.makeSlice 84 (.int .i64 2) (.int .i64 2)).run Tryz.prog w = .ok (.slice (some ⟨w.heap.size, 0, none⟩) 2 2) (w.alloc (.cells #[.int .i64 0, .slice none 0 0, .int .i64 0, .slice none 0 0] 39)) := by kernel_rfl
/-- a vector of 32 bits whose words lie ahead of B or are new -/
def EvalR (B : Nat) (w : World) (y : Nat) (r : Ending) (w' : World) : Prop := ∃ p c, r = .returned (.agg #[.int .i64 32, .slice p 1 c]) ∧ VRA (fun k => k < B ∨ w.heap.size ≤ k) w' p c y ∧ Below w.heap.size w w'
def ValueR (w : World) (y : Nat) (r : Ending) (w' : World) : Prop := ∃ p c, r = .returned (.agg #[.int .i64 32, .slice p 1 c]) ∧ VRA (fun k => w.heap.size ≤ k) w' p c y ∧ Below w.heap.size w w'
set_option maxRecDepth 100000 in
set_option maxHeartbeats 4000000 in
theorem eval_const {B : Nat} {w : World} {p : Option Addr} {c y : Nat} {s : Value} (hv : VRA (fun k => k < B) w p c y) (hB : B ≤ w.heap.size) : Calls Tryz.prog 9 #[.agg #[.int .i64 1, .int .i64 0, .int .i64 32, .int .i64 0, .int .i64 0, .bool false, .int .i64 32, .slice p 1 c, .slice none 0 0], s] w (EvalR B w y) := by
  replace hv := And.intro hv hB
  have HV := Lib.hid hv
  clear hv hB
  have g1 := Below.new w (.cells #[.int .i64 1, .int .i64 0, .int .i64 32, .int .i64 0, .int .i64 0, .bool false, .int .i64 32, .slice p 1 c, .slice none 0 0] 42)
  have g2 := Below.new (w.alloc (.cells #[.int .i64 1, .int .i64 0, .int .i64 32, .int .i64 0, .int .i64 0, .bool false, .int .i64 32, .slice p 1 c, .slice none 0 0] 42)) (.cells #[.int .i64 0, .slice none 0 0] 39)
  have gg := Below.next g1 g2
  have H := Lib.hid (And.intro ((Blk.new (w := w) 42 [.int .i64 1, .int .i64 0, .int .i64 32, .int .i64 0, .int .i64 0, .bool false, .int .i64 32, .slice p 1 c, .slice none 0 0]).next g2) (And.intro (Blk.new (w := (w.alloc (.cells #[.int .i64 1, .int .i64 0, .int .i64 32, .int .i64 0, .int .i64 0, .bool false, .int .i64 32, .slice p 1 c, .slice none 0 0] 42))) 39 [.int .i64 0, .slice none 0 0]) (And.intro gg (HV.out.1.turn (A' := fun k => k < B) fun k hk hl => ⟨hk, gg.block k hl⟩))))
  simp only [World.size_alloc] at H
  clear g1 g2 gg
  have hmk := mk_vec0
  go_enter Tryz.func9, Tryz.ntmps9
  go_upto_region 1 with fail
  change Hid (Blk ((w.alloc (.cells #[.int .i64 1, .int .i64 0, .int .i64 32, .int .i64 0, .int .i64 0, .bool false, .int .i64 32, .slice p 1 c, .slice none 0 0] 42)).alloc (.cells #[.int .i64 0, .slice none 0 0] 39)) _ _ _ ∧ _) at H
  generalize ((w.alloc (.cells #[.int .i64 1, .int .i64 0, .int .i64 32, .int .i64 0, .int .i64 0, .bool false, .int .i64 32, .slice p 1 c, .slice none 0 0] 42)).alloc (.cells #[.int .i64 0, .slice none 0 0] 39)) = w1 at *
  obtain ⟨b0, hb0⟩ : ∃ b, w.heap.size = b := ⟨_, rfl⟩
  obtain ⟨b1, hb1⟩ : ∃ b, b0 + 1 = b := ⟨_, rfl⟩
  rw [hb0] at H ⊢
  rw [hb1] at H ⊢
  have HB := Lib.hid (And.intro hb0 hb1)
  clear hb0 hb1
  have gz := Below.new w1 (.cells #[] 39)
  have hbw := Below.trans H.out.2.2.1 (gz.mono (by have h := H.out.1.lt; omega))
  have H2 := Lib.hid (And.intro (H.out.1.next gz) (And.intro (H.out.2.1.next gz) (And.intro hbw (And.intro (Blk.new (w := w1) 39 []) (And.intro (show b1 < w1.heap.size from H.out.2.1.lt) (H.out.2.2.2.turn (A' := fun k => k < B) fun k hk hl => ⟨hk, gz.block k hl⟩))))))
  clear gz hbw
  have x8 := H.out.1.cell (i := 8) rfl
  go_upto_region 2 with fail
  change Hid (Blk (w1.alloc (.cells #[] 39)) _ _ _ ∧ _) at H2
  generalize (w1.alloc (.cells #[] 39)) = w2 at *
  obtain ⟨b2, hb2⟩ : ∃ b, w1.heap.size = b := ⟨_, rfl⟩
  rw [hb2] at H2 ⊢
  have HB2 := Lib.hid hb2
  clear x8 H hmk hb2
  have x0 := H2.out.1.cell (i := 0) rfl
  have x6 := H2.out.1.cell (i := 6) rfl
  have x7 := H2.out.1.cell (i := 7) rfl
  have x8 := H2.out.1.cell (i := 8) rfl
  go_wp2_with fail
  go_loopw [15] (fun iv wr => iv = .int .i64 0 ∧ wr = w2) (fun _ _ => 0)
  case atStart => exact ⟨rfl, rfl⟩
  case round =>
    obtain ⟨rfl, rfl⟩ := hrel
    have r0 := H2.out.2.1.cell (i := 0) rfl
    have r1 := H2.out.2.1.cell (i := 1) rfl
    have f0 := H2.out.2.1.frz 0
    have f1 := H2.out.2.1.frz 1
    go_wp2_with fail
    have hk9 := H2.out.2.1.put [.int .i64 32, .slice p 1 c] rfl
    have hb9 := Below.sets (b := b1) (by have := HB.out; omega) [.int .i64 32, .slice p 1 c] 0 H2.out.2.2.1
    have hv9 := H2.out.2.2.2.2.2.turn (A' := fun k => k < B ∨ w.heap.size ≤ k) (w' := wr.setCells b1 0 [.int .i64 32, .slice p 1 c]) fun k hk hl => ⟨Or.inl hk, setCells_other (by have := HB.out; have := HV.out.2; omega) _ _⟩
    exact bodyPost_ret (v := .agg #[.int .i64 32, .slice p 1 c]) (results_cell_row rfl _ _ b1 _ _ _ _ rfl hk9 Tryz.underlying39 rfl sizeVec) rfl ⟨_, _, rfl, hv9, by rw [HB.out.1]; exact hb9⟩
set_option maxRecDepth 100000 in
set_option maxHeartbeats 4000000 in
theorem eval_node1 {B K y : Nat} {w : World} {op : Int} {s : Value} {k0 op0 vw0 : Int} {vp0 ap0 : Option Addr} {vn0 vc0 an0 ac0 y0 : Nat} (hB : B ≤ w.heap.size) (hr0 : ∀ W : World, Below w.heap.size w W → W.rangeAt K 0 [.int .i64 k0, .int .i64 op0, .int .i64 32, .int .i64 0, .int .i64 0, .bool false, .int .i64 vw0, .slice vp0 vn0 vc0, .slice ap0 an0 ac0]) (he0 : ∀ W : World, Below w.heap.size w W → Calls Tryz.prog 9 #[.agg #[.int .i64 k0, .int .i64 op0, .int .i64 32, .int .i64 0, .int .i64 0, .bool false, .int .i64 vw0, .slice vp0 vn0 vc0, .slice ap0 an0 ac0], s] W (EvalR B W y0))
    (hval : ∀ (W : World) (L : Nat) (p0 : Option Addr) (c0 : Nat), Below w.heap.size w W → Blk W L 39 [.int .i64 32, .slice p0 1 c0] → VR W (.agg #[.int .i64 32, .slice p0 1 c0]) 32 y0 → Calls Tryz.prog 22 #[.agg #[.int .i64 6, .int .i64 op, .int .i64 32, .int .i64 0, .int .i64 0, .bool false, .int .i64 0, .slice none 0 0, .slice (some ⟨K, 0, none⟩) 1 1], .slice (some ⟨L, 0, none⟩) 1 1] W (ValueR W y)) : Calls Tryz.prog 9 #[.agg #[.int .i64 6, .int .i64 op, .int .i64 32, .int .i64 0, .int .i64 0, .bool false, .int .i64 0, .slice none 0 0, .slice (some ⟨K, 0, none⟩) 1 1], s] w (EvalR B w y) := by
  have HV := Lib.hid (And.intro hB (And.intro hr0 (And.intro he0 hval)))
  clear hB hval hr0 he0
  have g1 := Below.new w (.cells #[.int .i64 6, .int .i64 op, .int .i64 32, .int .i64 0, .int .i64 0, .bool false, .int .i64 0, .slice none 0 0, .slice (some ⟨K, 0, none⟩) 1 1] 42)
  have g2 := Below.new (w.alloc (.cells #[.int .i64 6, .int .i64 op, .int .i64 32, .int .i64 0, .int .i64 0, .bool false, .int .i64 0, .slice none 0 0, .slice (some ⟨K, 0, none⟩) 1 1] 42)) (.cells #[.int .i64 0, .slice none 0 0] 39)
  have gg := Below.next g1 g2
  have H := Lib.hid (And.intro ((Blk.new (w := w) 42 [.int .i64 6, .int .i64 op, .int .i64 32, .int .i64 0, .int .i64 0, .bool false, .int .i64 0, .slice none 0 0, .slice (some ⟨K, 0, none⟩) 1 1]).next g2) (And.intro (Blk.new (w := (w.alloc (.cells #[.int .i64 6, .int .i64 op, .int .i64 32, .int .i64 0, .int .i64 0, .bool false, .int .i64 0, .slice none 0 0, .slice (some ⟨K, 0, none⟩) 1 1] 42))) 39 [.int .i64 0, .slice none 0 0]) (And.intro gg trivial)))
  simp only [World.size_alloc] at H
  clear g1 g2 gg
  have hmk := mk_vec1
  go_enter Tryz.func9, Tryz.ntmps9
  go_upto_region 1 with fail
  change Hid (Blk ((w.alloc (.cells #[.int .i64 6, .int .i64 op, .int .i64 32, .int .i64 0, .int .i64 0, .bool false, .int .i64 0, .slice none 0 0, .slice (some ⟨K, 0, none⟩) 1 1] 42)).alloc (.cells #[.int .i64 0, .slice none 0 0] 39)) _ _ _ ∧ _) at H
  generalize ((w.alloc (.cells #[.int .i64 6, .int .i64 op, .int .i64 32, .int .i64 0, .int .i64 0, .bool false, .int .i64 0, .slice none 0 0, .slice (some ⟨K, 0, none⟩) 1 1] 42)).alloc (.cells #[.int .i64 0, .slice none 0 0] 39)) = w1 at *
  obtain ⟨b0, hb0⟩ : ∃ b, w.heap.size = b := ⟨_, rfl⟩
  obtain ⟨b1, hb1⟩ : ∃ b, b0 + 1 = b := ⟨_, rfl⟩
  rw [hb0] at H ⊢
  rw [hb1] at H ⊢
  have HB := Lib.hid (And.intro hb0 hb1)
  clear hb0 hb1
  have gz := Below.new w1 (.cells #[.int .i64 0, .slice none 0 0] 39)
  have hbw := Below.trans H.out.2.2.1 (gz.mono (by have h := H.out.1.lt; omega))
  have H2 := Lib.hid (And.intro (H.out.1.next gz) (And.intro (H.out.2.1.next gz) (And.intro hbw (And.intro (Blk.new (w := w1) 39 [.int .i64 0, .slice none 0 0]) (And.intro (show b1 < w1.heap.size from H.out.2.1.lt) trivial)))))
  clear gz hbw
  have x8 := H.out.1.cell (i := 8) rfl
  go_upto_region 2 with fail
  change Hid (Blk (w1.alloc (.cells #[.int .i64 0, .slice none 0 0] 39)) _ _ _ ∧ _) at H2
  generalize (w1.alloc (.cells #[.int .i64 0, .slice none 0 0] 39)) = w2 at *
  obtain ⟨b2, hb2⟩ : ∃ b, w1.heap.size = b := ⟨_, rfl⟩
  rw [hb2] at H2 ⊢
  have HB2 := Lib.hid hb2
  clear x8 H hmk hb2
  have x0 := H2.out.1.cell (i := 0) rfl
  have x8 := H2.out.1.cell (i := 8) rfl
  go_wp2_with fail
  go_loopw [15] (fun iv wr => ((iv = .int .i64 0 ∧ Blk wr b2 39 [.int .i64 0, .slice none 0 0]) ∨ (iv = .int .i64 1 ∧ ∃ (p0 : Option Addr) (c0 : Nat), Blk wr b2 39 [.int .i64 32, .slice p0 1 c0] ∧ VRA (fun k => k ≠ b2 ∧ k ≠ b1) wr p0 c0 y0)) ∧ Blk wr b0 42 [.int .i64 6, .int .i64 op, .int .i64 32, .int .i64 0, .int .i64 0, .bool false, .int .i64 0, .slice none 0 0, .slice (some ⟨K, 0, none⟩) 1 1] ∧ Blk wr b1 39 [.int .i64 0, .slice none 0 0] ∧ Below w.heap.size w wr) (fun iv _ => 1 - (intOf iv).toNat)
  case atStart => exact ⟨Or.inl ⟨rfl, H2.out.2.2.2.1⟩, H2.out.1, H2.out.2.1, by rw [HB.out.1]; exact H2.out.2.2.1⟩
  case round =>
    obtain ⟨hst, hk0, hk1, hbr⟩ := hrel
    rcases hst with ⟨rfl, hk2⟩ | ⟨rfl, p0, c0, hk2, hv0⟩
    · skip
      have HG : Hid (wr.rangeAt K 0 [.int .i64 k0, .int .i64 op0, .int .i64 32, .int .i64 0, .int .i64 0, .bool false, .int .i64 vw0, .slice vp0 vn0 vc0, .slice ap0 an0 ac0]) := Lib.hid (HV.out.2.1 wr hbr)
      have gg := Below.new wr (.cells #[.int .i64 k0, .int .i64 op0, .int .i64 32, .int .i64 0, .int .i64 0, .bool false, .int .i64 vw0, .slice vp0 vn0 vc0, .slice ap0 an0 ac0] 42)
      have hbr5 := Below.next hbr gg
      have HE := Lib.hid (HV.out.2.2.1 (wr.alloc (.cells #[.int .i64 k0, .int .i64 op0, .int .i64 32, .int .i64 0, .int .i64 0, .bool false, .int .i64 vw0, .slice vp0 vn0 vc0, .slice ap0 an0 ac0] 42)) hbr5)
      have H5 := Lib.hid (And.intro (hk0.next gg) (And.intro (hk1.next gg) (And.intro hbr5 (And.intro (Blk.new (w := wr) 42 [.int .i64 k0, .int .i64 op0, .int .i64 32, .int .i64 0, .int .i64 0, .bool false, .int .i64 vw0, .slice vp0 vn0 vc0, .slice ap0 an0 ac0]) (And.intro (show b2 < wr.heap.size from hk2.lt) (And.intro (show b1 < wr.heap.size from hk1.lt) (And.intro (hk2.next gg) trivial)))))))
      change Hid (Blk (wr.alloc (.cells #[.int .i64 k0, .int .i64 op0, .int .i64 32, .int .i64 0, .int .i64 0, .bool false, .int .i64 vw0, .slice vp0 vn0 vc0, .slice ap0 an0 ac0] 42)) _ _ _ ∧ _) at H5
      change Hid (Calls _ _ _ (wr.alloc (.cells #[.int .i64 k0, .int .i64 op0, .int .i64 32, .int .i64 0, .int .i64 0, .bool false, .int .i64 vw0, .slice vp0 vn0 vc0, .slice ap0 an0 ac0] 42)) _) at HE
      clear hk0 hk1 hk2 hbr hbr5 gg x0 x8 
      go_upto_region 5 with (refine wpList_load_mid rfl 42 _ rfl K 0 rfl [.int .i64 k0, .int .i64 op0, .int .i64 32, .int .i64 0, .int .i64 0, .bool false, .int .i64 vw0, .slice vp0 vn0 vc0, .slice ap0 an0 ac0] _ HG.out Tryz.underlying42 rfl sizeTE ?_)
      obtain ⟨b5, hb5⟩ : ∃ b, wr.heap.size = b := ⟨_, rfl⟩
      rw [hb5] at H5 ⊢
      generalize (wr.alloc (.cells #[.int .i64 k0, .int .i64 op0, .int .i64 32, .int .i64 0, .int .i64 0, .bool false, .int .i64 vw0, .slice vp0 vn0 vc0, .slice ap0 an0 ac0] 42)) = w5 at *
      clear hb5 HG
      have HG2 := Lib.hid (show w5.rangeAt b5 0 [.int .i64 k0, .int .i64 op0, .int .i64 32, .int .i64 0, .int .i64 0, .bool false, .int .i64 vw0, .slice vp0 vn0 vc0, .slice ap0 an0 ac0] from fun j u hj => by rw [Nat.zero_add]; exact H5.out.2.2.2.1.cell hj)
      go_wp2_with ((refine wpList_load_mid rfl 42 _ rfl b5 0 rfl [.int .i64 k0, .int .i64 op0, .int .i64 32, .int .i64 0, .int .i64 0, .bool false, .int .i64 vw0, .slice vp0 vn0 vc0, .slice ap0 an0 ac0] _ HG2.out Tryz.underlying42 rfl sizeTE ?_))
      refine HE.out.mono ?_; rintro r w6 ⟨p0, c0, rfl, hv6, hb6⟩
      have hbv6 := hv6.turn (A' := fun k => k ≠ b2 ∧ k ≠ b1) (w' := w6) fun k hk hl => ⟨by have h1 := H5.out.2.2.2.2.1; have h2 := H5.out.2.2.2.1.lt; have h3 := H5.out.2.2.2.2.2.1; have := HV.out.1; have := HB.out; have := HB2.out; have := H2.out.2.2.2.2.1; omega, rfl⟩
      have H6 := Lib.hid (And.intro (H5.out.1.next hb6) (And.intro (H5.out.2.1.next hb6) (And.intro (Below.next H5.out.2.2.1 hb6) (And.intro (H5.out.2.2.2.2.2.2.1.next hb6) hbv6))))
      clear hv6 hb6 hbv6 HE HG2 H5
      have s0 := H6.out.2.2.2.1.cell (i := 0) rfl
      have s1 := H6.out.2.2.2.1.cell (i := 1) rfl
      have f0 := H6.out.2.2.2.1.frz 0
      have f1 := H6.out.2.2.2.1.frz 1
      go_wp2_with fail
      go_roundw
      case measure => simp [intOf]
      have hne0 : b0 ≠ b2 := by have := HB.out; have := H2.out.2.2.2.2.1; omega
      have hne1 : b1 ≠ b2 := by have := H2.out.2.2.2.2.1; omega
      have hle2 : w.heap.size ≤ b2 := by have := HB.out; have := H2.out.2.2.2.2.1; omega
      have hu : Upd (One b2) (One b2) w6 ((w6.setCell ⟨b2, 0, none⟩ (.int .i64 32)).setCell ⟨b2, 1, none⟩ (.slice p0 1 c0)) := (upd_cell1 _).trans (upd_cell1 _)
      case rel => exact ⟨Or.inr (⟨rfl, p0, c0, (H6.out.2.2.2.1.set 0 (.int .i64 32)).set 1 (.slice p0 1 c0), ((H6.out.2.2.2.2).turn (A' := fun k => k ≠ b2 ∧ k ≠ b1) (w' := ((w6.setCell ⟨b2, 0, none⟩ (.int .i64 32)).setCell ⟨b2, 1, none⟩ (.slice p0 1 c0))) fun k hk hl => ⟨hk, (Below.heap_setCell _ _ _ _ hk.1).trans (Below.heap_setCell _ _ _ _ hk.1)⟩)⟩), H6.out.1.upd hu hne0, H6.out.2.1.upd hu hne1, Below.setCell (Below.setCell H6.out.2.2.1 hle2 _) hle2 _⟩
    · skip
      have HF := Lib.hid (And.intro hk0 (And.intro hk1 (And.intro hbr (And.intro hk2 (And.intro hv0 trivial)))))
      clear hk0 hk1 hk2 hbr x0 x8 hv0
      have x0 := HF.out.1.cell (i := 0) rfl
      have HG2 := Lib.hid (show wr.rangeAt b0 0 [.int .i64 6, .int .i64 op, .int .i64 32, .int .i64 0, .int .i64 0, .bool false, .int .i64 0, .slice none 0 0, .slice (some ⟨K, 0, none⟩) 1 1] from fun j u hj => by rw [Nat.zero_add]; exact HF.out.1.cell hj)
      go_wp2_with ((refine wpList_load_mid rfl 42 _ rfl b0 0 rfl [.int .i64 6, .int .i64 op, .int .i64 32, .int .i64 0, .int .i64 0, .bool false, .int .i64 0, .slice none 0 0, .slice (some ⟨K, 0, none⟩) 1 1] _ HG2.out Tryz.underlying42 rfl sizeTE ?_))
      refine (HV.out.2.2.2 wr b2 p0 c0 HF.out.2.2.1 HF.out.2.2.2.1 HF.out.2.2.2.2.1.1).mono ?_; rintro r w6 ⟨p9, c9, rfl, hv6, hb6⟩
      have H6 := Lib.hid (And.intro (HF.out.2.1.next hb6) (And.intro (Below.next HF.out.2.2.1 hb6) (And.intro (show b1 < wr.heap.size from HF.out.2.1.lt) hv6)))
      clear hv6 hb6 HG2
      have r0 := H6.out.1.cell (i := 0) rfl
      have r1 := H6.out.1.cell (i := 1) rfl
      have f0 := H6.out.1.frz 0
      have f1 := H6.out.1.frz 1
      go_wp2_with fail
      have hk9 := H6.out.1.put [.int .i64 32, .slice p9 1 c9] rfl
      have hb9 := Below.sets (b := b1) (by have := HB.out; omega) [.int .i64 32, .slice p9 1 c9] 0 H6.out.2.1
      have hv9 := H6.out.2.2.2.turn (A' := fun k => k < B ∨ w.heap.size ≤ k) (w' := w6.setCells b1 0 [.int .i64 32, .slice p9 1 c9]) fun k hk hl => ⟨Or.inr (by have := HF.out.2.2.1.size; omega), setCells_other (by have := H6.out.2.2.1; omega) _ _⟩
      exact bodyPost_ret (v := .agg #[.int .i64 32, .slice p9 1 c9]) (results_cell_row rfl _ _ b1 _ _ _ _ rfl hk9 Tryz.underlying39 rfl sizeVec) rfl ⟨_, _, rfl, hv9, hb9⟩
set_option maxRecDepth 100000 in
set_option maxHeartbeats 4000000 in
theorem eval_node2 {B K y : Nat} {w : World} {op : Int} {s : Value} {k0 op0 vw0 : Int} {vp0 ap0 : Option Addr} {vn0 vc0 an0 ac0 y0 : Nat} {k1 op1 vw1 : Int} {vp1 ap1 : Option Addr} {vn1 vc1 an1 ac1 y1 : Nat} (hB : B ≤ w.heap.size) (hr0 : ∀ W : World, Below w.heap.size w W → W.rangeAt K 0 [.int .i64 k0, .int .i64 op0, .int .i64 32, .int .i64 0, .int .i64 0, .bool false, .int .i64 vw0, .slice vp0 vn0 vc0, .slice ap0 an0 ac0]) (he0 : ∀ W : World, Below w.heap.size w W → Calls Tryz.prog 9 #[.agg #[.int .i64 k0, .int .i64 op0, .int .i64 32, .int .i64 0, .int .i64 0, .bool false, .int .i64 vw0, .slice vp0 vn0 vc0, .slice ap0 an0 ac0], s] W (EvalR B W y0)) (hr1 : ∀ W : World, Below w.heap.size w W → W.rangeAt K 9 [.int .i64 k1, .int .i64 op1, .int .i64 32, .int .i64 0, .int .i64 0, .bool false, .int .i64 vw1, .slice vp1 vn1 vc1, .slice ap1 an1 ac1]) (he1 : ∀ W : World, Below w.heap.size w W → Calls Tryz.prog 9 #[.agg #[.int .i64 k1, .int .i64 op1, .int .i64 32, .int .i64 0, .int .i64 0, .bool false, .int .i64 vw1, .slice vp1 vn1 vc1, .slice ap1 an1 ac1], s] W (EvalR B W y1))
    (hval : ∀ (W : World) (L : Nat) (p0 : Option Addr) (c0 : Nat) (p1 : Option Addr) (c1 : Nat), Below w.heap.size w W → Blk W L 39 [.int .i64 32, .slice p0 1 c0, .int .i64 32, .slice p1 1 c1] → VR W (.agg #[.int .i64 32, .slice p0 1 c0]) 32 y0 → VR W (.agg #[.int .i64 32, .slice p1 1 c1]) 32 y1 → Calls Tryz.prog 22 #[.agg #[.int .i64 7, .int .i64 op, .int .i64 32, .int .i64 0, .int .i64 0, .bool false, .int .i64 0, .slice none 0 0, .slice (some ⟨K, 0, none⟩) 2 2], .slice (some ⟨L, 0, none⟩) 2 2] W (ValueR W y)) : Calls Tryz.prog 9 #[.agg #[.int .i64 7, .int .i64 op, .int .i64 32, .int .i64 0, .int .i64 0, .bool false, .int .i64 0, .slice none 0 0, .slice (some ⟨K, 0, none⟩) 2 2], s] w (EvalR B w y) := by
  have HV := Lib.hid (And.intro hB (And.intro hr0 (And.intro he0 (And.intro hr1 (And.intro he1 hval)))))
  clear hB hval hr0 he0 hr1 he1
  have g1 := Below.new w (.cells #[.int .i64 7, .int .i64 op, .int .i64 32, .int .i64 0, .int .i64 0, .bool false, .int .i64 0, .slice none 0 0, .slice (some ⟨K, 0, none⟩) 2 2] 42)
  have g2 := Below.new (w.alloc (.cells #[.int .i64 7, .int .i64 op, .int .i64 32, .int .i64 0, .int .i64 0, .bool false, .int .i64 0, .slice none 0 0, .slice (some ⟨K, 0, none⟩) 2 2] 42)) (.cells #[.int .i64 0, .slice none 0 0] 39)
  have gg := Below.next g1 g2
  have H := Lib.hid (And.intro ((Blk.new (w := w) 42 [.int .i64 7, .int .i64 op, .int .i64 32, .int .i64 0, .int .i64 0, .bool false, .int .i64 0, .slice none 0 0, .slice (some ⟨K, 0, none⟩) 2 2]).next g2) (And.intro (Blk.new (w := (w.alloc (.cells #[.int .i64 7, .int .i64 op, .int .i64 32, .int .i64 0, .int .i64 0, .bool false, .int .i64 0, .slice none 0 0, .slice (some ⟨K, 0, none⟩) 2 2] 42))) 39 [.int .i64 0, .slice none 0 0]) (And.intro gg trivial)))
  simp only [World.size_alloc] at H
  clear g1 g2 gg
  have hmk := mk_vec2
  go_enter Tryz.func9, Tryz.ntmps9
  go_upto_region 1 with fail
  change Hid (Blk ((w.alloc (.cells #[.int .i64 7, .int .i64 op, .int .i64 32, .int .i64 0, .int .i64 0, .bool false, .int .i64 0, .slice none 0 0, .slice (some ⟨K, 0, none⟩) 2 2] 42)).alloc (.cells #[.int .i64 0, .slice none 0 0] 39)) _ _ _ ∧ _) at H
  generalize ((w.alloc (.cells #[.int .i64 7, .int .i64 op, .int .i64 32, .int .i64 0, .int .i64 0, .bool false, .int .i64 0, .slice none 0 0, .slice (some ⟨K, 0, none⟩) 2 2] 42)).alloc (.cells #[.int .i64 0, .slice none 0 0] 39)) = w1 at *
  obtain ⟨b0, hb0⟩ : ∃ b, w.heap.size = b := ⟨_, rfl⟩
  obtain ⟨b1, hb1⟩ : ∃ b, b0 + 1 = b := ⟨_, rfl⟩
  rw [hb0] at H ⊢
  rw [hb1] at H ⊢
  have HB := Lib.hid (And.intro hb0 hb1)
  clear hb0 hb1
  have gz := Below.new w1 (.cells #[.int .i64 0, .slice none 0 0, .int .i64 0, .slice none 0 0] 39)
  have hbw := Below.trans H.out.2.2.1 (gz.mono (by have h := H.out.1.lt; omega))
  have H2 := Lib.hid (And.intro (H.out.1.next gz) (And.intro (H.out.2.1.next gz) (And.intro hbw (And.intro (Blk.new (w := w1) 39 [.int .i64 0, .slice none 0 0, .int .i64 0, .slice none 0 0]) (And.intro (show b1 < w1.heap.size from H.out.2.1.lt) trivial)))))
  clear gz hbw
  have x8 := H.out.1.cell (i := 8) rfl
  go_upto_region 2 with fail
  change Hid (Blk (w1.alloc (.cells #[.int .i64 0, .slice none 0 0, .int .i64 0, .slice none 0 0] 39)) _ _ _ ∧ _) at H2
  generalize (w1.alloc (.cells #[.int .i64 0, .slice none 0 0, .int .i64 0, .slice none 0 0] 39)) = w2 at *
  obtain ⟨b2, hb2⟩ : ∃ b, w1.heap.size = b := ⟨_, rfl⟩
  rw [hb2] at H2 ⊢
  have HB2 := Lib.hid hb2
  clear x8 H hmk hb2
  have x0 := H2.out.1.cell (i := 0) rfl
  have x8 := H2.out.1.cell (i := 8) rfl
  go_wp2_with fail
  go_loopw [15] (fun iv wr => ((iv = .int .i64 0 ∧ Blk wr b2 39 [.int .i64 0, .slice none 0 0, .int .i64 0, .slice none 0 0]) ∨ (iv = .int .i64 1 ∧ ∃ (p0 : Option Addr) (c0 : Nat), Blk wr b2 39 [.int .i64 32, .slice p0 1 c0, .int .i64 0, .slice none 0 0] ∧ VRA (fun k => k ≠ b2 ∧ k ≠ b1) wr p0 c0 y0) ∨ (iv = .int .i64 2 ∧ ∃ (p0 : Option Addr) (c0 : Nat) (p1 : Option Addr) (c1 : Nat), Blk wr b2 39 [.int .i64 32, .slice p0 1 c0, .int .i64 32, .slice p1 1 c1] ∧ VRA (fun k => k ≠ b2 ∧ k ≠ b1) wr p0 c0 y0 ∧ VRA (fun k => k ≠ b2 ∧ k ≠ b1) wr p1 c1 y1)) ∧ Blk wr b0 42 [.int .i64 7, .int .i64 op, .int .i64 32, .int .i64 0, .int .i64 0, .bool false, .int .i64 0, .slice none 0 0, .slice (some ⟨K, 0, none⟩) 2 2] ∧ Blk wr b1 39 [.int .i64 0, .slice none 0 0] ∧ Below w.heap.size w wr) (fun iv _ => 2 - (intOf iv).toNat)
  case atStart => exact ⟨Or.inl ⟨rfl, H2.out.2.2.2.1⟩, H2.out.1, H2.out.2.1, by rw [HB.out.1]; exact H2.out.2.2.1⟩
  case round =>
    obtain ⟨hst, hk0, hk1, hbr⟩ := hrel
    rcases hst with ⟨rfl, hk2⟩ | ⟨rfl, p0, c0, hk2, hv0⟩ | ⟨rfl, p0, c0, p1, c1, hk2, hv0, hv1⟩
    · skip
      have HG : Hid (wr.rangeAt K 0 [.int .i64 k0, .int .i64 op0, .int .i64 32, .int .i64 0, .int .i64 0, .bool false, .int .i64 vw0, .slice vp0 vn0 vc0, .slice ap0 an0 ac0]) := Lib.hid (HV.out.2.1 wr hbr)
      have gg := Below.new wr (.cells #[.int .i64 k0, .int .i64 op0, .int .i64 32, .int .i64 0, .int .i64 0, .bool false, .int .i64 vw0, .slice vp0 vn0 vc0, .slice ap0 an0 ac0] 42)
      have hbr5 := Below.next hbr gg
      have HE := Lib.hid (HV.out.2.2.1 (wr.alloc (.cells #[.int .i64 k0, .int .i64 op0, .int .i64 32, .int .i64 0, .int .i64 0, .bool false, .int .i64 vw0, .slice vp0 vn0 vc0, .slice ap0 an0 ac0] 42)) hbr5)
      have H5 := Lib.hid (And.intro (hk0.next gg) (And.intro (hk1.next gg) (And.intro hbr5 (And.intro (Blk.new (w := wr) 42 [.int .i64 k0, .int .i64 op0, .int .i64 32, .int .i64 0, .int .i64 0, .bool false, .int .i64 vw0, .slice vp0 vn0 vc0, .slice ap0 an0 ac0]) (And.intro (show b2 < wr.heap.size from hk2.lt) (And.intro (show b1 < wr.heap.size from hk1.lt) (And.intro (hk2.next gg) trivial)))))))
      change Hid (Blk (wr.alloc (.cells #[.int .i64 k0, .int .i64 op0, .int .i64 32, .int .i64 0, .int .i64 0, .bool false, .int .i64 vw0, .slice vp0 vn0 vc0, .slice ap0 an0 ac0] 42)) _ _ _ ∧ _) at H5
      change Hid (Calls _ _ _ (wr.alloc (.cells #[.int .i64 k0, .int .i64 op0, .int .i64 32, .int .i64 0, .int .i64 0, .bool false, .int .i64 vw0, .slice vp0 vn0 vc0, .slice ap0 an0 ac0] 42)) _) at HE
      clear hk0 hk1 hk2 hbr hbr5 gg x0 x8 
      go_upto_region 5 with (refine wpList_load_mid rfl 42 _ rfl K 0 rfl [.int .i64 k0, .int .i64 op0, .int .i64 32, .int .i64 0, .int .i64 0, .bool false, .int .i64 vw0, .slice vp0 vn0 vc0, .slice ap0 an0 ac0] _ HG.out Tryz.underlying42 rfl sizeTE ?_)
      obtain ⟨b5, hb5⟩ : ∃ b, wr.heap.size = b := ⟨_, rfl⟩
      rw [hb5] at H5 ⊢
      generalize (wr.alloc (.cells #[.int .i64 k0, .int .i64 op0, .int .i64 32, .int .i64 0, .int .i64 0, .bool false, .int .i64 vw0, .slice vp0 vn0 vc0, .slice ap0 an0 ac0] 42)) = w5 at *
      clear hb5 HG
      have HG2 := Lib.hid (show w5.rangeAt b5 0 [.int .i64 k0, .int .i64 op0, .int .i64 32, .int .i64 0, .int .i64 0, .bool false, .int .i64 vw0, .slice vp0 vn0 vc0, .slice ap0 an0 ac0] from fun j u hj => by rw [Nat.zero_add]; exact H5.out.2.2.2.1.cell hj)
      go_wp2_with ((refine wpList_load_mid rfl 42 _ rfl b5 0 rfl [.int .i64 k0, .int .i64 op0, .int .i64 32, .int .i64 0, .int .i64 0, .bool false, .int .i64 vw0, .slice vp0 vn0 vc0, .slice ap0 an0 ac0] _ HG2.out Tryz.underlying42 rfl sizeTE ?_))
      refine HE.out.mono ?_; rintro r w6 ⟨p0, c0, rfl, hv6, hb6⟩
      have hbv6 := hv6.turn (A' := fun k => k ≠ b2 ∧ k ≠ b1) (w' := w6) fun k hk hl => ⟨by have h1 := H5.out.2.2.2.2.1; have h2 := H5.out.2.2.2.1.lt; have h3 := H5.out.2.2.2.2.2.1; have := HV.out.1; have := HB.out; have := HB2.out; have := H2.out.2.2.2.2.1; omega, rfl⟩
      have H6 := Lib.hid (And.intro (H5.out.1.next hb6) (And.intro (H5.out.2.1.next hb6) (And.intro (Below.next H5.out.2.2.1 hb6) (And.intro (H5.out.2.2.2.2.2.2.1.next hb6) hbv6))))
      clear hv6 hb6 hbv6 HE HG2 H5
      have s0 := H6.out.2.2.2.1.cell (i := 0) rfl
      have s1 := H6.out.2.2.2.1.cell (i := 1) rfl
      have f0 := H6.out.2.2.2.1.frz 0
      have f1 := H6.out.2.2.2.1.frz 1
      go_wp2_with fail
      go_roundw
      case measure => simp [intOf]
      have hne0 : b0 ≠ b2 := by have := HB.out; have := H2.out.2.2.2.2.1; omega
      have hne1 : b1 ≠ b2 := by have := H2.out.2.2.2.2.1; omega
      have hle2 : w.heap.size ≤ b2 := by have := HB.out; have := H2.out.2.2.2.2.1; omega
      have hu : Upd (One b2) (One b2) w6 ((w6.setCell ⟨b2, 0, none⟩ (.int .i64 32)).setCell ⟨b2, 1, none⟩ (.slice p0 1 c0)) := (upd_cell1 _).trans (upd_cell1 _)
      case rel => exact ⟨Or.inr (Or.inl ⟨rfl, p0, c0, (H6.out.2.2.2.1.set 0 (.int .i64 32)).set 1 (.slice p0 1 c0), ((H6.out.2.2.2.2).turn (A' := fun k => k ≠ b2 ∧ k ≠ b1) (w' := ((w6.setCell ⟨b2, 0, none⟩ (.int .i64 32)).setCell ⟨b2, 1, none⟩ (.slice p0 1 c0))) fun k hk hl => ⟨hk, (Below.heap_setCell _ _ _ _ hk.1).trans (Below.heap_setCell _ _ _ _ hk.1)⟩)⟩), H6.out.1.upd hu hne0, H6.out.2.1.upd hu hne1, Below.setCell (Below.setCell H6.out.2.2.1 hle2 _) hle2 _⟩
    · skip
      have HG : Hid (wr.rangeAt K 9 [.int .i64 k1, .int .i64 op1, .int .i64 32, .int .i64 0, .int .i64 0, .bool false, .int .i64 vw1, .slice vp1 vn1 vc1, .slice ap1 an1 ac1]) := Lib.hid (HV.out.2.2.2.1 wr hbr)
      have gg := Below.new wr (.cells #[.int .i64 k1, .int .i64 op1, .int .i64 32, .int .i64 0, .int .i64 0, .bool false, .int .i64 vw1, .slice vp1 vn1 vc1, .slice ap1 an1 ac1] 42)
      have hbr5 := Below.next hbr gg
      have HE := Lib.hid (HV.out.2.2.2.2.1 (wr.alloc (.cells #[.int .i64 k1, .int .i64 op1, .int .i64 32, .int .i64 0, .int .i64 0, .bool false, .int .i64 vw1, .slice vp1 vn1 vc1, .slice ap1 an1 ac1] 42)) hbr5)
      have H5 := Lib.hid (And.intro (hk0.next gg) (And.intro (hk1.next gg) (And.intro hbr5 (And.intro (Blk.new (w := wr) 42 [.int .i64 k1, .int .i64 op1, .int .i64 32, .int .i64 0, .int .i64 0, .bool false, .int .i64 vw1, .slice vp1 vn1 vc1, .slice ap1 an1 ac1]) (And.intro (show b2 < wr.heap.size from hk2.lt) (And.intro (show b1 < wr.heap.size from hk1.lt) (And.intro (hk2.next gg) (And.intro (hv0.turn (A' := fun k => k ≠ b2 ∧ k ≠ b1) fun k hk hl => ⟨hk, gg.block k hl⟩) trivial))))))))
      change Hid (Blk (wr.alloc (.cells #[.int .i64 k1, .int .i64 op1, .int .i64 32, .int .i64 0, .int .i64 0, .bool false, .int .i64 vw1, .slice vp1 vn1 vc1, .slice ap1 an1 ac1] 42)) _ _ _ ∧ _) at H5
      change Hid (Calls _ _ _ (wr.alloc (.cells #[.int .i64 k1, .int .i64 op1, .int .i64 32, .int .i64 0, .int .i64 0, .bool false, .int .i64 vw1, .slice vp1 vn1 vc1, .slice ap1 an1 ac1] 42)) _) at HE
      clear hk0 hk1 hk2 hbr hbr5 gg x0 x8 hv0
      go_upto_region 5 with (refine wpList_load_mid rfl 42 _ rfl K 9 rfl [.int .i64 k1, .int .i64 op1, .int .i64 32, .int .i64 0, .int .i64 0, .bool false, .int .i64 vw1, .slice vp1 vn1 vc1, .slice ap1 an1 ac1] _ HG.out Tryz.underlying42 rfl sizeTE ?_)
      obtain ⟨b5, hb5⟩ : ∃ b, wr.heap.size = b := ⟨_, rfl⟩
      rw [hb5] at H5 ⊢
      generalize (wr.alloc (.cells #[.int .i64 k1, .int .i64 op1, .int .i64 32, .int .i64 0, .int .i64 0, .bool false, .int .i64 vw1, .slice vp1 vn1 vc1, .slice ap1 an1 ac1] 42)) = w5 at *
      clear hb5 HG
      have HG2 := Lib.hid (show w5.rangeAt b5 0 [.int .i64 k1, .int .i64 op1, .int .i64 32, .int .i64 0, .int .i64 0, .bool false, .int .i64 vw1, .slice vp1 vn1 vc1, .slice ap1 an1 ac1] from fun j u hj => by rw [Nat.zero_add]; exact H5.out.2.2.2.1.cell hj)
      go_wp2_with ((refine wpList_load_mid rfl 42 _ rfl b5 0 rfl [.int .i64 k1, .int .i64 op1, .int .i64 32, .int .i64 0, .int .i64 0, .bool false, .int .i64 vw1, .slice vp1 vn1 vc1, .slice ap1 an1 ac1] _ HG2.out Tryz.underlying42 rfl sizeTE ?_))
      refine HE.out.mono ?_; rintro r w6 ⟨p1, c1, rfl, hv6, hb6⟩
      have hbv6 := hv6.turn (A' := fun k => k ≠ b2 ∧ k ≠ b1) (w' := w6) fun k hk hl => ⟨by have h1 := H5.out.2.2.2.2.1; have h2 := H5.out.2.2.2.1.lt; have h3 := H5.out.2.2.2.2.2.1; have := HV.out.1; have := HB.out; have := HB2.out; have := H2.out.2.2.2.2.1; omega, rfl⟩
      have H6 := Lib.hid (And.intro (H5.out.1.next hb6) (And.intro (H5.out.2.1.next hb6) (And.intro (Below.next H5.out.2.2.1 hb6) (And.intro (H5.out.2.2.2.2.2.2.1.next hb6) (And.intro ((H5.out.2.2.2.2.2.2.2.1).turn (A' := fun k => k ≠ b2 ∧ k ≠ b1) (w' := w6) fun k hk hl => ⟨hk, hb6.block k hl⟩) hbv6)))))
      clear hv6 hb6 hbv6 HE HG2 H5
      have s0 := H6.out.2.2.2.1.cell (i := 2) rfl
      have s1 := H6.out.2.2.2.1.cell (i := 3) rfl
      have f0 := H6.out.2.2.2.1.frz 2
      have f1 := H6.out.2.2.2.1.frz 3
      go_wp2_with fail
      go_roundw
      case measure => simp [intOf]
      have hne0 : b0 ≠ b2 := by have := HB.out; have := H2.out.2.2.2.2.1; omega
      have hne1 : b1 ≠ b2 := by have := H2.out.2.2.2.2.1; omega
      have hle2 : w.heap.size ≤ b2 := by have := HB.out; have := H2.out.2.2.2.2.1; omega
      have hu : Upd (One b2) (One b2) w6 ((w6.setCell ⟨b2, 2, none⟩ (.int .i64 32)).setCell ⟨b2, 3, none⟩ (.slice p1 1 c1)) := (upd_cell1 _).trans (upd_cell1 _)
      case rel => exact ⟨Or.inr (Or.inr (⟨rfl, p0, c0, p1, c1, (H6.out.2.2.2.1.set 2 (.int .i64 32)).set 3 (.slice p1 1 c1), ((H6.out.2.2.2.2.1).turn (A' := fun k => k ≠ b2 ∧ k ≠ b1) (w' := ((w6.setCell ⟨b2, 2, none⟩ (.int .i64 32)).setCell ⟨b2, 3, none⟩ (.slice p1 1 c1))) fun k hk hl => ⟨hk, (Below.heap_setCell _ _ _ _ hk.1).trans (Below.heap_setCell _ _ _ _ hk.1)⟩), ((H6.out.2.2.2.2.2).turn (A' := fun k => k ≠ b2 ∧ k ≠ b1) (w' := ((w6.setCell ⟨b2, 2, none⟩ (.int .i64 32)).setCell ⟨b2, 3, none⟩ (.slice p1 1 c1))) fun k hk hl => ⟨hk, (Below.heap_setCell _ _ _ _ hk.1).trans (Below.heap_setCell _ _ _ _ hk.1)⟩)⟩)), H6.out.1.upd hu hne0, H6.out.2.1.upd hu hne1, Below.setCell (Below.setCell H6.out.2.2.1 hle2 _) hle2 _⟩
    · skip
      have HF := Lib.hid (And.intro hk0 (And.intro hk1 (And.intro hbr (And.intro hk2 (And.intro hv0 (And.intro hv1 trivial))))))
      clear hk0 hk1 hk2 hbr x0 x8 hv0 hv1
      have x0 := HF.out.1.cell (i := 0) rfl
      have HG2 := Lib.hid (show wr.rangeAt b0 0 [.int .i64 7, .int .i64 op, .int .i64 32, .int .i64 0, .int .i64 0, .bool false, .int .i64 0, .slice none 0 0, .slice (some ⟨K, 0, none⟩) 2 2] from fun j u hj => by rw [Nat.zero_add]; exact HF.out.1.cell hj)
      go_wp2_with ((refine wpList_load_mid rfl 42 _ rfl b0 0 rfl [.int .i64 7, .int .i64 op, .int .i64 32, .int .i64 0, .int .i64 0, .bool false, .int .i64 0, .slice none 0 0, .slice (some ⟨K, 0, none⟩) 2 2] _ HG2.out Tryz.underlying42 rfl sizeTE ?_))
      refine (HV.out.2.2.2.2.2 wr b2 p0 c0 p1 c1 HF.out.2.2.1 HF.out.2.2.2.1 HF.out.2.2.2.2.1.1 HF.out.2.2.2.2.2.1.1).mono ?_; rintro r w6 ⟨p9, c9, rfl, hv6, hb6⟩
      have H6 := Lib.hid (And.intro (HF.out.2.1.next hb6) (And.intro (Below.next HF.out.2.2.1 hb6) (And.intro (show b1 < wr.heap.size from HF.out.2.1.lt) hv6)))
      clear hv6 hb6 HG2
      have r0 := H6.out.1.cell (i := 0) rfl
      have r1 := H6.out.1.cell (i := 1) rfl
      have f0 := H6.out.1.frz 0
      have f1 := H6.out.1.frz 1
      go_wp2_with fail
      have hk9 := H6.out.1.put [.int .i64 32, .slice p9 1 c9] rfl
      have hb9 := Below.sets (b := b1) (by have := HB.out; omega) [.int .i64 32, .slice p9 1 c9] 0 H6.out.2.1
      have hv9 := H6.out.2.2.2.turn (A' := fun k => k < B ∨ w.heap.size ≤ k) (w' := w6.setCells b1 0 [.int .i64 32, .slice p9 1 c9]) fun k hk hl => ⟨Or.inr (by have := HF.out.2.2.1.size; omega), setCells_other (by have := H6.out.2.2.1; omega) _ _⟩
      exact bodyPost_ret (v := .agg #[.int .i64 32, .slice p9 1 c9]) (results_cell_row rfl _ _ b1 _ _ _ _ rfl hk9 Tryz.underlying39 rfl sizeVec) rfl ⟨_, _, rfl, hv9, hb9⟩
end Go.Proofs.YtkoggfahjlnecaaGreatDoor
