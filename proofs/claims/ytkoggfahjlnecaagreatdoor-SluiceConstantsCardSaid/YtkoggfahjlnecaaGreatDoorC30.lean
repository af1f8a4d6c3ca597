import Derived.Test.YtkoggfahjlnecaaGreatDoorC29
namespace Go.Proofs.YtkoggfahjlnecaaGreatDoor
set_option linter.unusedVariables false
open Go.RowKit Go.Sort

/-! # the resolver's assigned -/
set_option maxRecDepth 100000 in
set_option maxHeartbeats 4000000 in
theorem assigned_any {br : Nat} {nm : Int} {tp : Option Addr} {tc : Nat} {ep : Option Addr} {ec : Nat} {e : KE} (hwf : e.wf) {w : World} {cs : List Value} {nodes : Nat} (h : RSt br nm tp tc ep ec nodes w) (hx : EX (fun k => k < br) w e cs) (hno : nodes + e.size ≤ 20000) : Calls Tryz.prog 17 #[.pointer (some ⟨br, 0, none⟩), .agg cs.toArray, .int .i64 32] w (TxR br nm tp tc ep ec nodes e w) := by
  obtain ⟨k1, t1, p1, n1, c1, rfl⟩ := hx.form
  change Calls Tryz.prog 17 #[.pointer (some ⟨br, 0, none⟩), .agg #[.int .i64 k1, .int .i64 0, .int .i64 0, .int .i64 0, .string t1, .slice p1 n1 c1], .int .i64 32] w _
  have HSf : Hid (∀ W : World, Upd (One br) (One br) w W → RSt br nm tp tc ep ec nodes W → Calls Tryz.prog 35 #[.pointer (some ⟨br, 0, none⟩), .agg #[.int .i64 k1, .int .i64 0, .int .i64 0, .int .i64 0, .string t1, .slice p1 n1 c1]] W fun r w2 => r = .returned (.agg #[.int .i64 32, .bool true]) ∧ Below W.heap.size W w2) := Lib.hid fun W h1 h2 => self_any hwf W _ nodes h2 (hx.upd h1)
  have HEx : Hid (∀ W : World, Upd (One br) (One br) w W → RSt br nm tp tc ep ec nodes W → Calls Tryz.prog 36 #[.pointer (some ⟨br, 0, none⟩), .agg #[.int .i64 k1, .int .i64 0, .int .i64 0, .int .i64 0, .string t1, .slice p1 n1 c1], .agg #[.int .i64 32, .bool true]] W (TxR br nm tp tc ep ec nodes e W)) := Lib.hid fun W h1 h2 => texpr_any hwf W _ nodes h2 (hx.upd h1) hno
  have g1 := Below.new w (.cells #[.int .i64 k1, .int .i64 0, .int .i64 0, .int .i64 0, .string t1, .slice p1 n1 c1] 27)
  have g2 := Below.new (w.alloc (.cells #[.int .i64 k1, .int .i64 0, .int .i64 0, .int .i64 0, .string t1, .slice p1 n1 c1] 27)) (.cells #[.int .i64 0, .int .i64 0, .int .i64 0, .int .i64 0, .int .i64 0, .bool false, .int .i64 0, .slice none 0 0, .slice none 0 0] 42)
  have gg := Below.next g1 g2
  have hu := Upd.below (F := One br) gg
  have H := Lib.hid (And.intro ((Blk.new (w := w) 27 [.int .i64 k1, .int .i64 0, .int .i64 0, .int .i64 0, .string t1, .slice p1 n1 c1]).next g2) (And.intro (Blk.new (w := (w.alloc (.cells #[.int .i64 k1, .int .i64 0, .int .i64 0, .int .i64 0, .string t1, .slice p1 n1 c1] 27))) 42 [.int .i64 0, .int .i64 0, .int .i64 0, .int .i64 0, .int .i64 0, .bool false, .int .i64 0, .slice none 0 0, .slice none 0 0]) (And.intro hu (And.intro (h.next gg) h.bk.lt))))
  simp only [World.size_alloc] at H
  clear g1 g2 gg h hno hu hx hwf
  go_enter Tryz.func17, Tryz.ntmps17
  go_upto_region 1 with fail
  change Hid (Blk ((w.alloc (.cells #[.int .i64 k1, .int .i64 0, .int .i64 0, .int .i64 0, .string t1, .slice p1 n1 c1] 27)).alloc (.cells #[.int .i64 0, .int .i64 0, .int .i64 0, .int .i64 0, .int .i64 0, .bool false, .int .i64 0, .slice none 0 0, .slice none 0 0] 42)) _ _ _ ∧ _) at H
  generalize ((w.alloc (.cells #[.int .i64 k1, .int .i64 0, .int .i64 0, .int .i64 0, .string t1, .slice p1 n1 c1] 27)).alloc (.cells #[.int .i64 0, .int .i64 0, .int .i64 0, .int .i64 0, .int .i64 0, .bool false, .int .i64 0, .slice none 0 0, .slice none 0 0] 42)) = w1 at *
  obtain ⟨b0, hb0⟩ : ∃ b, w.heap.size = b := ⟨_, rfl⟩
  obtain ⟨b1, hb1⟩ : ∃ b, b0 + 1 = b := ⟨_, rfl⟩
  rw [hb0] at H ⊢
  rw [hb1] at H ⊢
  have HN := Lib.hid (show w.heap.size = b0 ∧ b0 < b1 ∧ b1 < w1.heap.size ∧ br < b0 from ⟨hb0, by omega, H.out.2.1.lt, H.out.2.2.2.2⟩)
  clear hb0 hb1
  have hne0 : b0 ≠ br := by have := HN.out; omega
  have hne1 : b1 ≠ br := by have := HN.out; omega
  have x0 := H.out.1.cell (i := 0) rfl
  have x1 := H.out.1.cell (i := 1) rfl
  have x2 := H.out.1.cell (i := 2) rfl
  have x3 := H.out.1.cell (i := 3) rfl
  have x4 := H.out.1.cell (i := 4) rfl
  have x5 := H.out.1.cell (i := 5) rfl
  go_wp2_with fail
  refine (HSf.out _ H.out.2.2.1 H.out.2.2.2.1).mono ?_
  rintro r w2 ⟨rfl, hb2⟩
  clear HSf x0 x1 x2 x3 x4 x5
  have hn := Below.new w2 (.cells #[.int .i64 32, .bool true] 99)
  have hbn := Below.next hb2 hn
  have hks := Blk.new (w := w2) 99 [.int .i64 32, .bool true]
  obtain ⟨b3, hb3⟩ : ∃ x, w2.heap.size = x := ⟨_, rfl⟩
  rw [hb3] at hks
  have hl3 : w1.heap.size ≤ b3 := by rw [← hb3]; exact hb2.size
  have H3 := Lib.hid (And.intro hks (And.intro (H.out.1.next hbn) (And.intro (H.out.2.1.next hbn) (And.intro (H.out.2.2.1.trans (Upd.below (F := One br) hbn)) (And.intro (H.out.2.2.2.1.next hbn) hl3)))))
  clear hb2 hn hbn hks hl3
  change Hid (Blk (w2.alloc (.cells #[.int .i64 32, .bool true] 99)) _ _ _ ∧ _) at H3
  go_upto_region 2 with fail
  generalize (w2.alloc (.cells #[.int .i64 32, .bool true] 99)) = w3 at *
  clear hb3 H
  have x0 := H3.out.2.1.cell (i := 0) rfl
  have x1 := H3.out.2.1.cell (i := 1) rfl
  have x2 := H3.out.2.1.cell (i := 2) rfl
  have x3 := H3.out.2.1.cell (i := 3) rfl
  have x4 := H3.out.2.1.cell (i := 4) rfl
  have x5 := H3.out.2.1.cell (i := 5) rfl
  have y0 := H3.out.1.cell (i := 0) rfl
  have y1 := H3.out.1.cell (i := 1) rfl
  go_wp2_with fail
  refine (HEx.out _ H3.out.2.2.2.1 H3.out.2.2.2.2.1).mono ?_
  rintro r w4 ⟨cs, rfl, ht, hr, hu⟩
  clear HEx x0 x1 x2 x3 x4 x5 y0 y1
  obtain ⟨k9, op9, vw9, vp9, ap9, vn9, vc9, an9, ac9, e9⟩ := ht.form
  subst e9
  have hn := Below.new w4 (.cells #[.int .i64 k9, .int .i64 op9, .int .i64 32, .int .i64 0, .int .i64 0, .bool false, .int .i64 vw9, .slice vp9 vn9 vc9, .slice ap9 an9 ac9] 42)
  have hkn := Blk.new (w := w4) 42 [.int .i64 k9, .int .i64 op9, .int .i64 32, .int .i64 0, .int .i64 0, .bool false, .int .i64 vw9, .slice vp9 vn9 vc9, .slice ap9 an9 ac9]
  obtain ⟨bx, hbx⟩ : ∃ x, w4.heap.size = x := ⟨_, rfl⟩
  have hltx : w3.heap.size ≤ bx := by rw [← hbx]; exact hu.size
  have HX := Lib.hid (show w3.heap.size ≤ bx ∧ w1.heap.size ≤ b3 ∧ b3 < w3.heap.size from ⟨hltx, H3.out.2.2.2.2.2, H3.out.1.lt⟩)
  have hu4 := hu.trans (Upd.below (F := One br) hn)
  rw [hbx] at hkn
  have H5 := Lib.hid (And.intro hkn (And.intro (H3.out.2.2.1.upd hu4 hne1) (And.intro (TX.turn (A' := fun k => w3.heap.size ≤ k) (fun k h1 hl => ⟨h1, hn.block k hl⟩) ht) (And.intro (hr.next hn) (H3.out.2.2.2.1.trans hu4)))))
  clear hu hu4 hr ht hn hkn hltx H3
  change Hid (Blk (w4.alloc (.cells #[.int .i64 k9, .int .i64 op9, .int .i64 32, .int .i64 0, .int .i64 0, .bool false, .int .i64 vw9, .slice vp9 vn9 vc9, .slice ap9 an9 ac9] 42)) _ _ _ ∧ _) at H5
  go_upto_region 3 with fail
  generalize (w4.alloc (.cells #[.int .i64 k9, .int .i64 op9, .int .i64 32, .int .i64 0, .int .i64 0, .bool false, .int .i64 vw9, .slice vp9 vn9 vc9, .slice ap9 an9 ac9] 42)) = w5 at *
  clear hbx
  have k5 := H5.out.2.2.2.1.bk.cell (i := 5) rfl
  have HG := Lib.hid (show w5.rangeAt bx 0 [.int .i64 k9, .int .i64 op9, .int .i64 32, .int .i64 0, .int .i64 0, .bool false, .int .i64 vw9, .slice vp9 vn9 vc9, .slice ap9 an9 ac9] from fun j u hj => by rw [Nat.zero_add]; exact H5.out.1.cell hj)
  go_wp2_with ((refine wpList_load_mid rfl 42 _ rfl bx 0 rfl [.int .i64 k9, .int .i64 op9, .int .i64 32, .int .i64 0, .int .i64 0, .bool false, .int .i64 vw9, .slice vp9 vn9 vc9, .slice ap9 an9 ac9] _ HG.out Tryz.underlying42 rfl sizeTE ?_))
  refine part_any.mono ?_
  rintro r w6 ⟨rfl, hb6⟩
  have H6 := Lib.hid (And.intro (H5.out.2.1.next hb6) (And.intro (TX.turn (A' := fun k => w3.heap.size ≤ k) (fun k h1 hl => ⟨h1, hb6.block k hl⟩) H5.out.2.2.1) (And.intro (H5.out.2.2.2.1.next hb6) (H5.out.2.2.2.2.trans (Upd.below (F := One br) hb6)))))
  clear hb6 H5 HG k5
  have HT : Hid (w6.there b1 0 9) := Lib.hid (fun j hj => by rw [Nat.zero_add]; exact ⟨by rw [H6.out.1.cell (List.getElem?_eq_getElem hj)]; rfl, H6.out.1.frz j⟩)
  go_wp2_with ((refine wpList_store_mid rfl 42 _ _ rfl b1 0 #[.int .i64 k9, .int .i64 op9, .int .i64 32, .int .i64 0, .int .i64 0, .bool false, .int .i64 vw9, .slice vp9 vn9 vc9, .slice ap9 an9 ac9] rfl rfl HT.out sizeTE (by kernel_rfl) ?_))
  have hk9 := H6.out.1.put [.int .i64 k9, .int .i64 op9, .int .i64 32, .int .i64 0, .int .i64 0, .bool false, .int .i64 vw9, .slice vp9 vn9 vc9, .slice ap9 an9 ac9] rfl
  have hr9 := RSt.puts (b := b1) hne1 (by have := HN.out; omega) [.int .i64 k9, .int .i64 op9, .int .i64 32, .int .i64 0, .int .i64 0, .bool false, .int .i64 vw9, .slice vp9 vn9 vc9, .slice ap9 an9 ac9] 0 H6.out.2.2.1
  have hu9 := Upd.puts (B := w.heap.size) (b := b1) (by have := HN.out; omega) [.int .i64 k9, .int .i64 op9, .int .i64 32, .int .i64 0, .int .i64 0, .bool false, .int .i64 vw9, .slice vp9 vn9 vc9, .slice ap9 an9 ac9] 0 rfl H6.out.2.2.2
  have ht9 := TX.turn (A' := fun k => w.heap.size ≤ k) (w' := w6.setCells b1 0 [.int .i64 k9, .int .i64 op9, .int .i64 32, .int .i64 0, .int .i64 0, .bool false, .int .i64 vw9, .slice vp9 vn9 vc9, .slice ap9 an9 ac9]) (fun k h1 hl => ⟨by have h2 : w3.heap.size ≤ k := h1; have := HN.out; have := HX.out; omega, put_other (by have h2 : w3.heap.size ≤ k := h1; have := HN.out; have := HX.out; omega)⟩) H6.out.2.1
  generalize w6.setCells b1 0 [.int .i64 k9, .int .i64 op9, .int .i64 32, .int .i64 0, .int .i64 0, .bool false, .int .i64 vw9, .slice vp9 vn9 vc9, .slice ap9 an9 ac9] = w9 at *
  exact bodyPost_ret (v := .agg #[.int .i64 k9, .int .i64 op9, .int .i64 32, .int .i64 0, .int .i64 0, .bool false, .int .i64 vw9, .slice vp9 vn9 vc9, .slice ap9 an9 ac9]) (results_cell_row rfl _ _ b1 _ _ _ _ rfl hk9 Tryz.underlying42 rfl sizeTE) rfl ⟨[.int .i64 k9, .int .i64 op9, .int .i64 32, .int .i64 0, .int .i64 0, .bool false, .int .i64 vw9, .slice vp9 vn9 vc9, .slice ap9 an9 ac9], rfl, ht9, hr9, hu9⟩
end Go.Proofs.YtkoggfahjlnecaaGreatDoor
