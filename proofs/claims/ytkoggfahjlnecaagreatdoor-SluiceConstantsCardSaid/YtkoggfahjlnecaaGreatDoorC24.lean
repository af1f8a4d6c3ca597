import Derived.Test.YtkoggfahjlnecaaGreatDoorC23
namespace Go.Proofs.YtkoggfahjlnecaaGreatDoor
set_option linter.unusedVariables false
open Go.RowKit Go.Sort

/-! # typed.Nodes -/
set_option maxRecDepth 100000 in
set_option maxHeartbeats 4000000 in
theorem tnodes_any {nm : Int} {A : Nat → Prop} {w : World} {e : KE} {cs : List Value} (hx : TX nm A w e cs) (hs : tsz e ≤ 20000) : Calls Tryz.prog 18 #[.agg cs.toArray] w fun r w' => r = .returned (.int .i64 (tsz e : Nat)) ∧ Below w.heap.size w w' := by
  obtain ⟨k, op, vw, vp, ap, vn, vc, an, ac, rfl⟩ := hx.form
  have g1 := Below.new w (.cells #[.int .i64 k, .int .i64 op, .int .i64 32, .int .i64 0, .int .i64 0, .bool false, .int .i64 vw, .slice vp vn vc, .slice ap an ac] 42)
  have g2 := Below.new (w.alloc (.cells #[.int .i64 k, .int .i64 op, .int .i64 32, .int .i64 0, .int .i64 0, .bool false, .int .i64 vw, .slice vp vn vc, .slice ap an ac] 42)) (.cells #[.int .i64 0] 3)
  have gg := Below.next g1 g2
  have hlt : w.heap.size < (w.alloc (.cells #[.int .i64 k, .int .i64 op, .int .i64 32, .int .i64 0, .int .i64 0, .bool false, .int .i64 vw, .slice vp vn vc, .slice ap an ac] 42)).heap.size := (Blk.new (w := w) 42 [.int .i64 k, .int .i64 op, .int .i64 32, .int .i64 0, .int .i64 0, .bool false, .int .i64 vw, .slice vp vn vc, .slice ap an ac]).lt
  have hw := walk_tx (hx.turn (A' := fun z => z ≠ (w.alloc (.cells #[.int .i64 k, .int .i64 op, .int .i64 32, .int .i64 0, .int .i64 0, .bool false, .int .i64 vw, .slice vp vn vc, .slice ap an ac] 42)).heap.size) (w' := ((w.alloc (.cells #[.int .i64 k, .int .i64 op, .int .i64 32, .int .i64 0, .int .i64 0, .bool false, .int .i64 vw, .slice vp vn vc, .slice ap an ac] 42)).alloc (.cells #[.int .i64 0] 3))) fun z hz hl => ⟨Nat.ne_of_lt (Nat.lt_trans hl hlt), gg.block z hl⟩)
  have HW := Lib.hid (hw ((w.alloc (.cells #[.int .i64 k, .int .i64 op, .int .i64 32, .int .i64 0, .int .i64 0, .bool false, .int .i64 vw, .slice vp vn vc, .slice ap an ac] 42)).alloc (.cells #[.int .i64 0] 3)) 0 (Upd.refl _ _) (Blk.new (w := (w.alloc (.cells #[.int .i64 k, .int .i64 op, .int .i64 32, .int .i64 0, .int .i64 0, .bool false, .int .i64 vw, .slice vp vn vc, .slice ap an ac] 42))) 3 [.int .i64 0]) (by rw [Nat.zero_add]; exact hs))
  rw [Nat.zero_add] at HW
  have H := Lib.hid (And.intro ((Blk.new (w := w) 42 [.int .i64 k, .int .i64 op, .int .i64 32, .int .i64 0, .int .i64 0, .bool false, .int .i64 vw, .slice vp vn vc, .slice ap an ac]).next g2) (And.intro gg (show (w.alloc (.cells #[.int .i64 k, .int .i64 op, .int .i64 32, .int .i64 0, .int .i64 0, .bool false, .int .i64 vw, .slice vp vn vc, .slice ap an ac] 42)).heap.size ≤ ((w.alloc (.cells #[.int .i64 k, .int .i64 op, .int .i64 32, .int .i64 0, .int .i64 0, .bool false, .int .i64 vw, .slice vp vn vc, .slice ap an ac] 42)).alloc (.cells #[.int .i64 0] 3)).heap.size from g2.size)))
  have HS : Hid ((w.alloc (.cells #[.int .i64 k, .int .i64 op, .int .i64 32, .int .i64 0, .int .i64 0, .bool false, .int .i64 vw, .slice vp vn vc, .slice ap an ac] 42)).heap.size = w.heap.size + 1) := Lib.hid (World.size_alloc _ _)
  obtain ⟨bn, hbn⟩ : ∃ b, (w.alloc (.cells #[.int .i64 k, .int .i64 op, .int .i64 32, .int .i64 0, .int .i64 0, .bool false, .int .i64 vw, .slice vp vn vc, .slice ap an ac] 42)).heap.size = b := ⟨_, rfl⟩
  rw [hbn] at HW H HS
  clear hbn g1 g2 gg hlt hw hx hs
  have HS2 := HS.out
  rw [HS2] at HW H
  clear HS2
  go_enter Tryz.func18, Tryz.ntmps18
  go_upto_region 2 with fail
  change Hid (Blk ((w.alloc (.cells #[.int .i64 k, .int .i64 op, .int .i64 32, .int .i64 0, .int .i64 0, .bool false, .int .i64 vw, .slice vp vn vc, .slice ap an ac] 42)).alloc (.cells #[.int .i64 0] 3)) _ _ _ ∧ _) at H
  change Hid (Calls _ _ _ ((w.alloc (.cells #[.int .i64 k, .int .i64 op, .int .i64 32, .int .i64 0, .int .i64 0, .bool false, .int .i64 vw, .slice vp vn vc, .slice ap an ac] 42)).alloc (.cells #[.int .i64 0] 3)) _) at HW
  generalize ((w.alloc (.cells #[.int .i64 k, .int .i64 op, .int .i64 32, .int .i64 0, .int .i64 0, .bool false, .int .i64 vw, .slice vp vn vc, .slice ap an ac] 42)).alloc (.cells #[.int .i64 0] 3)) = w1 at *
  obtain ⟨b0, hb0⟩ : ∃ b, w.heap.size = b := ⟨_, rfl⟩
  obtain ⟨b1, hb1⟩ : ∃ b, b0 + 1 = b := ⟨_, rfl⟩
  rw [hb0] at H HW ⊢
  rw [hb1] at H HW ⊢
  have HB := Lib.hid (And.intro hb0 hb1)
  clear hb0 hb1
  have HG := Lib.hid (show w1.rangeAt b0 0 [.int .i64 k, .int .i64 op, .int .i64 32, .int .i64 0, .int .i64 0, .bool false, .int .i64 vw, .slice vp vn vc, .slice ap an ac] from fun j u hj => by rw [Nat.zero_add]; exact H.out.1.cell hj)
  go_wp2_with ((refine wpList_load_mid rfl 42 _ rfl b0 0 rfl [.int .i64 k, .int .i64 op, .int .i64 32, .int .i64 0, .int .i64 0, .bool false, .int .i64 vw, .slice vp vn vc, .slice ap an ac] _ HG.out Tryz.underlying42 rfl sizeTE ?_))
  refine HW.out.mono ?_; rintro r w2 ⟨rfl, hk2, hu2⟩
  have c0 := hk2.cell (i := 0) rfl
  have H2 := Lib.hid (Below.trans H.out.2.1 ((hu2.low H.out.2.2).mono (by have := HB.out; omega)))
  clear hk2 hu2 HW HG
  go_wp2_with fail
  go_ret
  exact ⟨rfl, by rw [HB.out.1]; exact H2.out⟩
end Go.Proofs.YtkoggfahjlnecaaGreatDoor
