import Derived.Test.YtkoggfahjlnecaaGreatDoorC28
namespace Go.Proofs.YtkoggfahjlnecaaGreatDoor
set_option linter.unusedVariables false
open Go.RowKit Go.Sort

/-! # the resolver's expr at an operator -/
theorem ROA.upd {br : Nat} {w w' : World} {v : Value} {size n : Nat} {cs : List Value} (h : ROA (fun k => k < br) w v size n cs) (hu : Upd (One br) (One br) w w') : ROA (fun k => k < br) w' v size n cs := h.turn fun k hk hl => ⟨hk, hu.block k hl (fun e => by have : k = br := e; omega)⟩
theorem EX.upd {br : Nat} {w w' : World} {e : KE} {cs : List Value} (h : EX (fun k => k < br) w e cs) (hu : Upd (One br) (One br) w w') : EX (fun k => k < br) w' e cs := h.turn fun k hk hl => ⟨hk, hu.block k hl (fun e => by have : k = br := e; omega)⟩
set_option maxRecDepth 100000 in
set_option maxHeartbeats 4000000 in
theorem texpr_bin {br : Nat} {nm : Int} {tp : Option Addr} {tc : Nat} {ep : Option Addr} {ec : Nat} {o : Nat} {a b : KE} (ho : o < 7) (ia : TExC br nm tp tc ep ec a) (ib : TExC br nm tp tc ep ec b) : TExC br nm tp tc ep ec (.bin o a b) := by
  intro w cs nodes h hx hno
  obtain ⟨p, c, ca, cb, rfl, hro, hxa, hxb⟩ := hx
  have hno3 : nodes + a.size + b.size + 1 = nodes + (KE.bin o a b).size := by have : (KE.bin o a b).size = a.size + b.size + 1 := rfl; omega
  have hex : ∃ j u, (ca ++ cb)[j]? = some u := ⟨0, _, List.getElem?_eq_getElem (by have := hxa.len; rw [List.length_append]; omega)⟩
  obtain ⟨j0, u0, hj0⟩ := hex
  obtain ⟨Lx, ox, rfl⟩ := hro.sl hj0
  clear hj0 u0 j0
  have hA : ExprAll br nm tp tc ep ec nodes a ca w := fun W h1 h2 => ia W ca nodes h2 (hxa.upd h1) (by omega)
  have hB : ExprAll br nm tp tc ep ec (nodes + a.size) b cb w := fun W h1 h2 => ib W cb (nodes + a.size) h2 (hxb.upd h1) (by omega)
  obtain ⟨ka, ta, pa, na, cca, rfl⟩ := hxa.form
  obtain ⟨kb, tb, pb, nb, ccb, rfl⟩ := hxb.form
  have hxx := EX.turn (A' := fun k => k < br) (w' := w) (fun k hk _ => ⟨hk, rfl⟩) hxa
  have HSp : Hid (∀ W : World, Upd (One br) (One br) w W → RSt br nm tp tc ep ec nodes W → Calls Tryz.prog 69 #[.pointer (some ⟨br, 0, none⟩), .agg #[.int .i64 4, .int .i64 0, .int .i64 0, .int .i64 0, .string (opT o), .slice (some ⟨Lx, ox, none⟩) 2 c], .agg #[.int .i64 32, .bool true]] W (SpR br nm tp tc ep ec (nodes + a.size + b.size) (.bin o a b) W)) := Lib.hid fun W h1 h2 => spread_any ho h2 (hro.upd h1) (fun W' h3 h4 => hA W' (h1.trans h3) h4) (fun W' h3 h4 => hB W' (h1.trans h3) h4)
  clear hxx hA hB ia ib hxa hxb hro ho
  change Calls Tryz.prog 36 #[.pointer (some ⟨br, 0, none⟩), .agg #[.int .i64 4, .int .i64 0, .int .i64 0, .int .i64 0, .string (opT o), .slice (some ⟨Lx, ox, none⟩) 2 c], .agg #[.int .i64 32, .bool true]] w _
  have g1 := Below.new w (.cells #[.int .i64 4, .int .i64 0, .int .i64 0, .int .i64 0, .string (opT o), .slice (some ⟨Lx, ox, none⟩) 2 c] 27)
  have g2 := Below.new (w.alloc (.cells #[.int .i64 4, .int .i64 0, .int .i64 0, .int .i64 0, .string (opT o), .slice (some ⟨Lx, ox, none⟩) 2 c] 27)) (.cells #[.int .i64 32, .bool true] 99)
  have g3 := Below.new ((w.alloc (.cells #[.int .i64 4, .int .i64 0, .int .i64 0, .int .i64 0, .string (opT o), .slice (some ⟨Lx, ox, none⟩) 2 c] 27)).alloc (.cells #[.int .i64 32, .bool true] 99)) (.cells #[.int .i64 0, .int .i64 0, .int .i64 0, .int .i64 0, .int .i64 0, .bool false, .int .i64 0, .slice none 0 0, .slice none 0 0] 42)
  have gg := Below.next (Below.next g1 g2) g3
  have hu := Upd.below (F := One br) gg
  have hno2 : nodes + a.size + b.size < 20000 := by omega
  have H := Lib.hid (And.intro ((Blk.new (w := w) 27 [.int .i64 4, .int .i64 0, .int .i64 0, .int .i64 0, .string (opT o), .slice (some ⟨Lx, ox, none⟩) 2 c]).next (Below.next g2 g3)) (And.intro ((Blk.new (w := (w.alloc (.cells #[.int .i64 4, .int .i64 0, .int .i64 0, .int .i64 0, .string (opT o), .slice (some ⟨Lx, ox, none⟩) 2 c] 27))) 99 [.int .i64 32, .bool true]).next g3) (And.intro (Blk.new (w := ((w.alloc (.cells #[.int .i64 4, .int .i64 0, .int .i64 0, .int .i64 0, .string (opT o), .slice (some ⟨Lx, ox, none⟩) 2 c] 27)).alloc (.cells #[.int .i64 32, .bool true] 99))) 42 [.int .i64 0, .int .i64 0, .int .i64 0, .int .i64 0, .int .i64 0, .bool false, .int .i64 0, .slice none 0 0, .slice none 0 0]) (And.intro hu (And.intro (h.next gg) (And.intro h.bk.lt (And.intro hno2 hno3)))))))
  simp only [World.size_alloc] at H
  clear g1 g2 g3 gg h hno hno2 hno3 hu
  go_enter Tryz.func36, Tryz.ntmps36
  go_upto_region 1 with fail
  change Hid (Blk (((w.alloc (.cells #[.int .i64 4, .int .i64 0, .int .i64 0, .int .i64 0, .string (opT o), .slice (some ⟨Lx, ox, none⟩) 2 c] 27)).alloc (.cells #[.int .i64 32, .bool true] 99)).alloc (.cells #[.int .i64 0, .int .i64 0, .int .i64 0, .int .i64 0, .int .i64 0, .bool false, .int .i64 0, .slice none 0 0, .slice none 0 0] 42)) _ _ _ ∧ _) at H
  generalize (((w.alloc (.cells #[.int .i64 4, .int .i64 0, .int .i64 0, .int .i64 0, .string (opT o), .slice (some ⟨Lx, ox, none⟩) 2 c] 27)).alloc (.cells #[.int .i64 32, .bool true] 99)).alloc (.cells #[.int .i64 0, .int .i64 0, .int .i64 0, .int .i64 0, .int .i64 0, .bool false, .int .i64 0, .slice none 0 0, .slice none 0 0] 42)) = w1 at *
  obtain ⟨b0, hb0⟩ : ∃ b, w.heap.size = b := ⟨_, rfl⟩
  obtain ⟨b1, hb1⟩ : ∃ b, b0 + 1 = b := ⟨_, rfl⟩
  obtain ⟨b2, hb2⟩ : ∃ b, b1 + 1 = b := ⟨_, rfl⟩
  rw [hb0] at H ⊢
  rw [hb1] at H ⊢
  rw [hb2] at H ⊢
  have HN := Lib.hid (show w.heap.size = b0 ∧ b0 < b2 ∧ b2 < w1.heap.size ∧ br < b0 ∧ b1 < b2 ∧ b0 < b1 from ⟨hb0, by omega, H.out.2.2.1.lt, H.out.2.2.2.2.2.1, by omega, by omega⟩)
  clear hb0 hb1 hb2
  have x0 := H.out.1.cell (i := 0) rfl
  have x1 := H.out.1.cell (i := 1) rfl
  have x2 := H.out.1.cell (i := 2) rfl
  have x3 := H.out.1.cell (i := 3) rfl
  have x4 := H.out.1.cell (i := 4) rfl
  have x5 := H.out.1.cell (i := 5) rfl
  have y0 := H.out.2.1.cell (i := 0) rfl
  have y1 := H.out.2.1.cell (i := 1) rfl
  have k5 := H.out.2.2.2.2.1.bk.cell (i := 5) rfl
  go_upto_region 11 with fail
  go_wp2_with fail
  refine (HSp.out _ H.out.2.2.2.1 H.out.2.2.2.2.1).mono ?_
  rintro r w4 ⟨cs, rfl, ht, hr, hu⟩
  obtain ⟨k9, op9, vw9, vp9, ap9, vn9, vc9, an9, ac9, e9⟩ := ht.form
  subst e9
  have hn := Below.new w4 (.cells #[.int .i64 k9, .int .i64 op9, .int .i64 32, .int .i64 0, .int .i64 0, .bool false, .int .i64 vw9, .slice vp9 vn9 vc9, .slice ap9 an9 ac9] 42)
  have hkn := Blk.new (w := w4) 42 [.int .i64 k9, .int .i64 op9, .int .i64 32, .int .i64 0, .int .i64 0, .bool false, .int .i64 vw9, .slice vp9 vn9 vc9, .slice ap9 an9 ac9]
  obtain ⟨bx, hbx⟩ : ∃ x, w4.heap.size = x := ⟨_, rfl⟩
  have hltx : w1.heap.size ≤ bx := by rw [← hbx]; exact hu.size
  have HX := Lib.hid (show w1.heap.size ≤ bx ∧ b2 < bx from ⟨hltx, by have := HN.out; omega⟩)
  have hne0 : b0 ≠ br := by have := HN.out; omega
  have hne2 : b2 ≠ br := by have := HN.out; omega
  have hu4 := hu.trans (Upd.below (F := One br) hn)
  rw [hbx] at hkn
  have H5 := Lib.hid (And.intro hkn (And.intro (H.out.1.upd hu4 hne0) (And.intro (H.out.2.2.1.upd hu4 hne2) (And.intro (TX.turn (A' := fun k => w1.heap.size ≤ k) (fun k h1 hl => ⟨h1, hn.block k hl⟩) ht) (And.intro (hr.next hn) (H.out.2.2.2.1.trans hu4))))))
  clear hu hu4 hr ht hn hkn hltx x0 x4 x5 y0 y1 k5 x1 x2 x3
  change Hid (Blk (w4.alloc (.cells #[.int .i64 k9, .int .i64 op9, .int .i64 32, .int .i64 0, .int .i64 0, .bool false, .int .i64 vw9, .slice vp9 vn9 vc9, .slice ap9 an9 ac9] 42)) _ _ _ ∧ _) at H5
  go_upto_region 12 with fail
  generalize (w4.alloc (.cells #[.int .i64 k9, .int .i64 op9, .int .i64 32, .int .i64 0, .int .i64 0, .bool false, .int .i64 vw9, .slice vp9 vn9 vc9, .slice ap9 an9 ac9] 42)) = w5 at *
  have x1 := H5.out.2.1.cell (i := 1) rfl
  have x2 := H5.out.2.1.cell (i := 2) rfl
  have x3 := H5.out.2.1.cell (i := 3) rfl
  have HG := Lib.hid (show w5.rangeAt bx 0 [.int .i64 k9, .int .i64 op9, .int .i64 32, .int .i64 0, .int .i64 0, .bool false, .int .i64 vw9, .slice vp9 vn9 vc9, .slice ap9 an9 ac9] from fun j u hj => by rw [Nat.zero_add]; exact H5.out.1.cell hj)
  go_wp2_with ((refine wpList_load_mid rfl 42 _ rfl bx 0 rfl [.int .i64 k9, .int .i64 op9, .int .i64 32, .int .i64 0, .int .i64 0, .bool false, .int .i64 vw9, .slice vp9 vn9 vc9, .slice ap9 an9 ac9] _ HG.out Tryz.underlying42 rfl sizeTE ?_))
  refine (made_any H5.out.2.2.2.2.1 H.out.2.2.2.2.2.2.1).mono ?_
  rintro r w6 ⟨rfl, hr6, hu6⟩
  have hn6 := H.out.2.2.2.2.2.2.2
  rw [hn6] at hr6
  have H6 := Lib.hid (And.intro (H5.out.2.2.1.upd hu6 hne2) (And.intro (TX.upd (B := 0) H5.out.2.2.2.1 (fun k hk => by have h2 : w1.heap.size ≤ k := hk; have := HN.out; omega) hu6) (And.intro hr6 (H5.out.2.2.2.2.2.trans hu6))))
  clear hr6 hu6 H5 HG x1 x2 x3 hn6
  have HT : Hid (w6.there b2 0 9) := Lib.hid (fun j hj => by rw [Nat.zero_add]; exact ⟨by rw [H6.out.1.cell (List.getElem?_eq_getElem hj)]; rfl, H6.out.1.frz j⟩)
  go_wp2_with ((refine wpList_store_mid rfl 42 _ _ rfl b2 0 #[.int .i64 k9, .int .i64 op9, .int .i64 32, .int .i64 0, .int .i64 0, .bool false, .int .i64 vw9, .slice vp9 vn9 vc9, .slice ap9 an9 ac9] rfl rfl HT.out sizeTE (by kernel_rfl) ?_))
  have hk9 := H6.out.1.put [.int .i64 k9, .int .i64 op9, .int .i64 32, .int .i64 0, .int .i64 0, .bool false, .int .i64 vw9, .slice vp9 vn9 vc9, .slice ap9 an9 ac9] rfl
  have hr9 := RSt.puts (b := b2) hne2 (by have := HN.out; omega) [.int .i64 k9, .int .i64 op9, .int .i64 32, .int .i64 0, .int .i64 0, .bool false, .int .i64 vw9, .slice vp9 vn9 vc9, .slice ap9 an9 ac9] 0 H6.out.2.2.1
  have hu9 := Upd.puts (B := w.heap.size) (b := b2) (by have := HN.out; omega) [.int .i64 k9, .int .i64 op9, .int .i64 32, .int .i64 0, .int .i64 0, .bool false, .int .i64 vw9, .slice vp9 vn9 vc9, .slice ap9 an9 ac9] 0 rfl H6.out.2.2.2
  have ht9 := TX.turn (A' := fun k => w.heap.size ≤ k) (w' := w6.setCells b2 0 [.int .i64 k9, .int .i64 op9, .int .i64 32, .int .i64 0, .int .i64 0, .bool false, .int .i64 vw9, .slice vp9 vn9 vc9, .slice ap9 an9 ac9]) (fun k h1 hl => ⟨by have h2 : w1.heap.size ≤ k := h1; have := HN.out; omega, put_other (by have h2 : w1.heap.size ≤ k := h1; have := HN.out; omega)⟩) H6.out.2.1
  generalize w6.setCells b2 0 [.int .i64 k9, .int .i64 op9, .int .i64 32, .int .i64 0, .int .i64 0, .bool false, .int .i64 vw9, .slice vp9 vn9 vc9, .slice ap9 an9 ac9] = w9 at *
  exact bodyPost_ret (v := .agg #[.int .i64 k9, .int .i64 op9, .int .i64 32, .int .i64 0, .int .i64 0, .bool false, .int .i64 vw9, .slice vp9 vn9 vc9, .slice ap9 an9 ac9]) (results_cell_row rfl _ _ b2 _ _ _ _ rfl hk9 Tryz.underlying42 rfl sizeTE) rfl ⟨[.int .i64 k9, .int .i64 op9, .int .i64 32, .int .i64 0, .int .i64 0, .bool false, .int .i64 vw9, .slice vp9 vn9 vc9, .slice ap9 an9 ac9], rfl, ht9, hr9, hu9⟩
theorem texpr_any {br : Nat} {nm : Int} {tp : Option Addr} {tc : Nat} {ep : Option Addr} {ec : Nat} : ∀ {e : KE}, e.wf → TExC br nm tp tc ep ec e
  | .num n, hw => texpr_num hw
  | .nm, _ => texpr_nm
  | .bin o a b, ⟨h1, h2, h3⟩ => texpr_bin h1 (texpr_any h2) (texpr_any h3)
end Go.Proofs.YtkoggfahjlnecaaGreatDoor
