import Derived.Test.YtkoggfahjlnecaaGreatDoorC19
namespace Go.Proofs.YtkoggfahjlnecaaGreatDoor
set_option linter.unusedVariables false
open Go.RowKit Go.Sort

/-! # the resolver's expr -/
def TxR (br : Nat) (nm : Int) (tp : Option Addr) (tc : Nat) (ep : Option Addr) (ec nodes : Nat) (e : KE) (w : World) (r : Ending) (w' : World) : Prop := ∃ cs, r = .returned (.agg cs.toArray) ∧ TX nm (fun k => w.heap.size ≤ k) w' e cs ∧ RSt br nm tp tc ep ec (nodes + e.size) w' ∧ Upd (One br) (One br) w w'
def TExC (br : Nat) (nm : Int) (tp : Option Addr) (tc : Nat) (ep : Option Addr) (ec : Nat) (e : KE) : Prop := ∀ (w : World) (cs : List Value) (nodes : Nat), RSt br nm tp tc ep ec nodes w → EX (fun k => k < br) w e cs → nodes + e.size ≤ 20000 → Calls Tryz.prog 36 #[.pointer (some ⟨br, 0, none⟩), .agg cs.toArray, .agg #[.int .i64 32, .bool true]] w (TxR br nm tp tc ep ec nodes e w)
theorem VRA.upd {B br : Nat} {w w' : World} {p : Option Addr} {c x : Nat} (h : VRA (fun k => B ≤ k) w p c x) (hB : br < B) (hu : Upd (One br) (One br) w w') : VRA (fun k => B ≤ k) w' p c x := h.turn fun k hk hl => ⟨hk, hu.block k hl (fun e => by have : k = br := e; omega)⟩
set_option maxRecDepth 100000 in
set_option maxHeartbeats 4000000 in
theorem texpr_num {br : Nat} {nm : Int} {tp : Option Addr} {tc : Nat} {ep : Option Addr} {ec : Nat} {n : Nat} (hn : n < 200) : TExC br nm tp tc ep ec (.num n) := by
  intro w cs nodes h hx hno
  rw [show cs = numC n from hx]
  change Calls Tryz.prog 36 #[.pointer (some ⟨br, 0, none⟩), .agg #[.int .i64 1, .int .i64 0, .int .i64 0, .int .i64 0, .string (dec n), .slice none 0 0], .agg #[.int .i64 32, .bool true]] w _
  have hno2 : nodes < 20000 := by have : nodes + 1 ≤ 20000 := hno; omega
  have HLf := Lib.hid (fun (w : World) (h : RSt br nm tp tc ep ec nodes w) => leaf_num hn h)
  have g1 := Below.new w (.cells #[.int .i64 1, .int .i64 0, .int .i64 0, .int .i64 0, .string (dec n), .slice none 0 0] 27)
  have g2 := Below.new (w.alloc (.cells #[.int .i64 1, .int .i64 0, .int .i64 0, .int .i64 0, .string (dec n), .slice none 0 0] 27)) (.cells #[.int .i64 32, .bool true] 99)
  have g3 := Below.new ((w.alloc (.cells #[.int .i64 1, .int .i64 0, .int .i64 0, .int .i64 0, .string (dec n), .slice none 0 0] 27)).alloc (.cells #[.int .i64 32, .bool true] 99)) (.cells #[.int .i64 0, .int .i64 0, .int .i64 0, .int .i64 0, .int .i64 0, .bool false, .int .i64 0, .slice none 0 0, .slice none 0 0] 42)
  have gg := Below.next (Below.next g1 g2) g3
  have H := Lib.hid (And.intro ((Blk.new (w := w) 27 [.int .i64 1, .int .i64 0, .int .i64 0, .int .i64 0, .string (dec n), .slice none 0 0]).next (Below.next g2 g3)) (And.intro ((Blk.new (w := (w.alloc (.cells #[.int .i64 1, .int .i64 0, .int .i64 0, .int .i64 0, .string (dec n), .slice none 0 0] 27))) 99 [.int .i64 32, .bool true]).next g3) (And.intro (Blk.new (w := ((w.alloc (.cells #[.int .i64 1, .int .i64 0, .int .i64 0, .int .i64 0, .string (dec n), .slice none 0 0] 27)).alloc (.cells #[.int .i64 32, .bool true] 99))) 42 [.int .i64 0, .int .i64 0, .int .i64 0, .int .i64 0, .int .i64 0, .bool false, .int .i64 0, .slice none 0 0, .slice none 0 0]) (And.intro gg (And.intro (h.next gg) (And.intro h.bk.lt hno2))))))
  simp only [World.size_alloc] at H
  clear g1 g2 g3 gg h hx hno hno2 hn
  go_enter Tryz.func36, Tryz.ntmps36
  go_upto_region 1 with fail
  change Hid (Blk (((w.alloc (.cells #[.int .i64 1, .int .i64 0, .int .i64 0, .int .i64 0, .string (dec n), .slice none 0 0] 27)).alloc (.cells #[.int .i64 32, .bool true] 99)).alloc (.cells #[.int .i64 0, .int .i64 0, .int .i64 0, .int .i64 0, .int .i64 0, .bool false, .int .i64 0, .slice none 0 0, .slice none 0 0] 42)) _ _ _ ∧ _) at H
  generalize (((w.alloc (.cells #[.int .i64 1, .int .i64 0, .int .i64 0, .int .i64 0, .string (dec n), .slice none 0 0] 27)).alloc (.cells #[.int .i64 32, .bool true] 99)).alloc (.cells #[.int .i64 0, .int .i64 0, .int .i64 0, .int .i64 0, .int .i64 0, .bool false, .int .i64 0, .slice none 0 0, .slice none 0 0] 42)) = w1 at *
  obtain ⟨b0, hb0⟩ : ∃ b, w.heap.size = b := ⟨_, rfl⟩
  obtain ⟨b1, hb1⟩ : ∃ b, b0 + 1 = b := ⟨_, rfl⟩
  obtain ⟨b2, hb2⟩ : ∃ b, b1 + 1 = b := ⟨_, rfl⟩
  rw [hb0] at H ⊢
  rw [hb1] at H ⊢
  rw [hb2] at H ⊢
  have HB := Lib.hid (And.intro hb0 (And.intro hb1 hb2))
  clear hb0 hb1 hb2
  have x0 := H.out.1.cell (i := 0) rfl
  have x1 := H.out.1.cell (i := 1) rfl
  have x2 := H.out.1.cell (i := 2) rfl
  have x3 := H.out.1.cell (i := 3) rfl
  have x4 := H.out.1.cell (i := 4) rfl
  have x5 := H.out.1.cell (i := 5) rfl
  have y0 := H.out.2.1.cell (i := 0) rfl
  have y1 := H.out.2.1.cell (i := 1) rfl
  have k5 := H.out.2.2.2.2.1.bk.cell (i := 5) rfl
  go_upto_region 18 with fail
  have HL : Hid (∀ W : World, Below w1.heap.size w1 W → Calls Tryz.prog 74 #[.pointer (some ⟨br, 0, none⟩), .agg #[.int .i64 1, .int .i64 0, .int .i64 0, .int .i64 0, .string (dec n), .slice none 0 0]] W (LeafR W n)) := Lib.hid fun W hb => HLf.out W (H.out.2.2.2.2.1.next hb)
  have HWd := Lib.hid (fun (W : World) (p : Option Addr) (c : Nat) => wide_any (w := W) (k := 1) (op := 0) (vw := 32) (vp := p) (vn := 1) (vc := c) (ap := none) (an := 0) (ac := 0))
  have HTr := Lib.hid (Tr.nil w1)
  refine wp_region_webCR (w0 := w1) [.known (.pointer (some ⟨br, 0, none⟩)), .known (.pointer (some ⟨b0, 1, none⟩)), .known (.agg #[.int .i64 0, .int .i64 0, .int .i64 0]), .known (.pointer (some ⟨br, 0, none⟩)), .known (.agg #[.int .i64 1, .int .i64 0, .int .i64 0, .int .i64 0, .string (dec n), .slice none 0 0]), .rel (fun v W => ∃ p c, v = .agg #[.int .i64 1, .int .i64 0, .int .i64 32, .int .i64 0, .int .i64 0, .bool false, .int .i64 32, .slice p 1 c, .slice none 0 0] ∧ VRA (fun k => w1.heap.size ≤ k) W p c n) (fun _ => []), .known (.pointer (some ⟨b1, 0, none⟩)), .known (.int .i64 32), .known (.pointer (some ⟨b1, 1, none⟩)), .known (.bool true), .rel (fun v W => ∃ p c, v = .agg #[.int .i64 1, .int .i64 0, .int .i64 32, .int .i64 0, .int .i64 0, .bool false, .int .i64 32, .slice p 1 c, .slice none 0 0] ∧ VRA (fun k => w1.heap.size ≤ k) W p c n) (fun _ => [])] [1, 1, 1, 1, 1, 1, 1, 1, 1, 1, 1] [] 107 2 #[true, true, true, true, true, true, true, true, true, true, true, false, false] (by kernel_rfl) (by kernel_rfl) rfl rfl rfl (Nat.le_of_ble_eq_true rfl) ⟨Sp.Mono.known, Sp.Mono.known, Sp.Mono.known, Sp.Mono.known, Sp.Mono.known, (fun _ _ _ hb ⟨p, c, h1, h2⟩ => ⟨p, c, h1, h2.turn fun k hk hl => ⟨hk, hb.block k hl⟩⟩), Sp.Mono.known, Sp.Mono.known, Sp.Mono.known, Sp.Mono.known, (fun _ _ _ hb ⟨p, c, h1, h2⟩ => ⟨p, c, h1, h2.turn fun k hk hl => ⟨hk, hb.block k hl⟩⟩), trivial⟩ HTr.out.drew (fun _ _ _ _ _ h => h) (A := ?_) ?_ ?_ ?_
  rotate_left
  · intro u
    simp only [fillC, Sp.val, Nat.reduceBEq, cond_false, Act.put, List.setIfInBounds_toArray, List.set_cons_zero, List.set_cons_succ]
    rfl
  iterate 5 (refine ob_yes (web_op (o := _) rfl (fun u W hT hd Q K hK => ?_)) ?_; · (have cc0 : W.cell? _ = some _ := After.cell x0 ⟨W, hT.bel⟩; have cc1 : W.cell? _ = some _ := After.cell x1 ⟨W, hT.bel⟩; have cc2 : W.cell? _ = some _ := After.cell x2 ⟨W, hT.bel⟩; have cc3 : W.cell? _ = some _ := After.cell x3 ⟨W, hT.bel⟩; have cc4 : W.cell? _ = some _ := After.cell x4 ⟨W, hT.bel⟩; have cc5 : W.cell? _ = some _ := After.cell x5 ⟨W, hT.bel⟩; have cc6 : W.cell? _ = some _ := After.cell y0 ⟨W, hT.bel⟩; have cc7 : W.cell? _ = some _ := After.cell y1 ⟨W, hT.bel⟩; go_simp; exact hK.out _ _ (Below.refl _ _) rfl (fun p hp => by cases hp) List.nodup_nil))
  refine ob_yes (web_op (o := _) rfl (fun u W hT hd Q K hK => ?_)) ?_
  · (try simp only [Act.put, List.setIfInBounds_toArray, List.set_cons_zero, List.set_cons_succ] at hK)
    have cc0 : W.cell? _ = some _ := After.cell x0 ⟨W, hT.bel⟩
    have cc1 : W.cell? _ = some _ := After.cell x1 ⟨W, hT.bel⟩
    have cc2 : W.cell? _ = some _ := After.cell x2 ⟨W, hT.bel⟩
    have cc3 : W.cell? _ = some _ := After.cell x3 ⟨W, hT.bel⟩
    have cc4 : W.cell? _ = some _ := After.cell x4 ⟨W, hT.bel⟩
    have cc5 : W.cell? _ = some _ := After.cell x5 ⟨W, hT.bel⟩
    have cc6 : W.cell? _ = some _ := After.cell y0 ⟨W, hT.bel⟩
    have cc7 : W.cell? _ = some _ := After.cell y1 ⟨W, hT.bel⟩
    go_simp
    refine (HL.out _ hT.bel).mono ?_; rintro r w9 ⟨p, c, rfl, hv, hb9⟩
    exact hK.out _ _ hb9 ⟨p, c, rfl, hv.turn fun k hk hl => ⟨Nat.le_trans hT.bel.size hk, rfl⟩⟩ (fun p hp => by cases hp) List.nodup_nil
  iterate 4 (refine ob_yes (web_op (o := _) rfl (fun u W hT hd Q K hK => ?_)) ?_; · (have cc0 : W.cell? _ = some _ := After.cell x0 ⟨W, hT.bel⟩; have cc1 : W.cell? _ = some _ := After.cell x1 ⟨W, hT.bel⟩; have cc2 : W.cell? _ = some _ := After.cell x2 ⟨W, hT.bel⟩; have cc3 : W.cell? _ = some _ := After.cell x3 ⟨W, hT.bel⟩; have cc4 : W.cell? _ = some _ := After.cell x4 ⟨W, hT.bel⟩; have cc5 : W.cell? _ = some _ := After.cell x5 ⟨W, hT.bel⟩; have cc6 : W.cell? _ = some _ := After.cell y0 ⟨W, hT.bel⟩; have cc7 : W.cell? _ = some _ := After.cell y1 ⟨W, hT.bel⟩; go_simp; exact hK.out _ _ (Below.refl _ _) rfl (fun p hp => by cases hp) List.nodup_nil))
  refine ob_yes (web_op (o := _) rfl (fun u W hT hd Q K hK => ?_)) ?_
  · have d5 := hd 5 (by kernel_rfl)
    generalize u 5 = x5 at *
    obtain ⟨p5, c5, rfl, hv5⟩ := d5
    (try simp only [Act.put, List.setIfInBounds_toArray, List.set_cons_zero, List.set_cons_succ] at hK)
    have cc0 : W.cell? _ = some _ := After.cell x0 ⟨W, hT.bel⟩
    have cc1 : W.cell? _ = some _ := After.cell x1 ⟨W, hT.bel⟩
    have cc2 : W.cell? _ = some _ := After.cell x2 ⟨W, hT.bel⟩
    have cc3 : W.cell? _ = some _ := After.cell x3 ⟨W, hT.bel⟩
    have cc4 : W.cell? _ = some _ := After.cell x4 ⟨W, hT.bel⟩
    have cc5 : W.cell? _ = some _ := After.cell x5 ⟨W, hT.bel⟩
    have cc6 : W.cell? _ = some _ := After.cell y0 ⟨W, hT.bel⟩
    have cc7 : W.cell? _ = some _ := After.cell y1 ⟨W, hT.bel⟩
    go_simp
    refine (HWd.out _ _ _).mono ?_; rintro r w9 ⟨rfl, hb9⟩
    exact hK.out _ _ hb9 ⟨p5, c5, rfl, hv5.turn fun k hk hl => ⟨hk, hb9.block k hl⟩⟩ (fun p hp => by cases hp) List.nodup_nil
  exact ob_nil
  intro u wx hT hok
  obtain ⟨h0, h1, h2, h3, h4, h5, h6, h7, h8, h9, h10, _⟩ := hok
  clear h0 h1 h2 h3 h4 h5 h6 h7 h8 h9
  simp only [ownsC, Sp.own, Nat.reduceBEq, cond_false, List.append_nil] at hT
  have d10 := h10 (by kernel_rfl)
  clear h10
  generalize u 10 = x10 at *
  obtain ⟨p9, c9, rfl, hv9⟩ := d10
  (try dsimp only [List.nil_append, List.cons_append] at hT)
  have HTE := Lib.hid hT
  clear hT
  clear HTr x0 x1 x2 x3 x4 x5 y0 y1 k5 HL HWd HLf
  refine wpAny_of_held (S := fun _ => True) _ _ _ _ ?_
  have hlt : br < w1.heap.size := H.out.2.2.2.2.1.bk.lt
  have HM := Lib.hid (made_any (k := 1) (op := 0) (vw := 32) (vp := p9) (vn := 1) (vc := c9) (ap := none) (an := 0) (ac := 0) (H.out.2.2.2.2.1.next HTE.out.bel) H.out.2.2.2.2.2.2)
  have hr2 := H.out.2.2.1.next HTE.out.bel
  have hu2 : Upd (One br) (One br) w wx := (Upd.below (by rw [HB.out.1]; exact H.out.2.2.2.1)).trans (Upd.below HTE.out.bel)
  refine wpAnyH_ready (rs := [11]) (by kernel_rfl) (by simp) ?_
  refine held_cons rfl (fun K hK => ?_) AllReadyH.nil
  go_simp
  refine HM.out.mono ?_; rintro r w8 ⟨rfl, hr8, hu8⟩
  (try go_simp)
  refine hK.out _ _ trivial (fun _ => ?_)
  clear hK K
  (try simp only [List.setIfInBounds_toArray, List.set_cons_zero, List.set_cons_succ])
  have hne2 : b2 ≠ br := by have := HB.out; have := H.out.2.2.2.2.2.1; omega
  have H8 := Lib.hid (And.intro (hr2.upd hu8 hne2) (And.intro hr8 (And.intro (hu2.trans hu8) (And.intro (VRA.upd hv9 hlt hu8) (And.intro hne2 H.out.2.2.1.lt)))))
  clear hr2 hr8 hu2 hu8 hv9 hne2 hlt HM
  refine wpAnyH_ready (rs := [12]) (by kernel_rfl) (by simp) ?_
  refine held_cons rfl (fun K hK => ?_) AllReadyH.nil
  refine step_store rfl _ _ _ rfl b2 [.int .i64 1, .int .i64 0, .int .i64 32, .int .i64 0, .int .i64 0, .bool false, .int .i64 32, .slice p9 1 c9, .slice none 0 0] rfl rfl H8.out.1 (Nat.le_refl _) sizeTE (by simp [Value.oneCell']) ?_
  refine hK.out _ _ trivial (fun _ => ?_)
  clear hK K
  (try simp only [Act.put, List.setIfInBounds_toArray, List.set_cons_zero, List.set_cons_succ])
  refine wpAnyH_done (by kernel_rfl) ?_ _
  have hk9 := H8.out.1.put [.int .i64 1, .int .i64 0, .int .i64 32, .int .i64 0, .int .i64 0, .bool false, .int .i64 32, .slice p9 1 c9, .slice none 0 0] rfl
  have hv9 := H8.out.2.2.2.1.turn (A' := fun k => w.heap.size ≤ k) (w' := w8.setCells b2 0 [.int .i64 1, .int .i64 0, .int .i64 32, .int .i64 0, .int .i64 0, .bool false, .int .i64 32, .slice p9 1 c9, .slice none 0 0]) fun k hk hl => ⟨by have := HB.out; have := H8.out.2.2.2.2.2; omega, setCells_other (by have := H8.out.2.2.2.2.2; omega) _ _⟩
  have hr9 := RSt.puts H8.out.2.2.2.2.1 (by have := HB.out; have := H.out.2.2.2.2.2.1; omega) [.int .i64 1, .int .i64 0, .int .i64 32, .int .i64 0, .int .i64 0, .bool false, .int .i64 32, .slice p9 1 c9, .slice none 0 0] 0 H8.out.2.1
  have hu9 := Upd.puts (B := w.heap.size) (b := b2) (by have := HB.out; omega) [.int .i64 1, .int .i64 0, .int .i64 32, .int .i64 0, .int .i64 0, .bool false, .int .i64 32, .slice p9 1 c9, .slice none 0 0] 0 rfl H8.out.2.2.1
  generalize w8.setCells b2 0 [.int .i64 1, .int .i64 0, .int .i64 32, .int .i64 0, .int .i64 0, .bool false, .int .i64 32, .slice p9 1 c9, .slice none 0 0] = w9 at *
  go_wp2_with fail
  exact bodyPost_ret (v := .agg #[.int .i64 1, .int .i64 0, .int .i64 32, .int .i64 0, .int .i64 0, .bool false, .int .i64 32, .slice p9 1 c9, .slice none 0 0]) (results_cell_row rfl _ _ b2 _ _ _ _ rfl hk9 Tryz.underlying42 rfl sizeTE) rfl ⟨[.int .i64 1, .int .i64 0, .int .i64 32, .int .i64 0, .int .i64 0, .bool false, .int .i64 32, .slice p9 1 c9, .slice none 0 0], rfl, ⟨p9, c9, rfl, hv9⟩, hr9, hu9⟩
set_option maxRecDepth 100000 in
set_option maxHeartbeats 4000000 in
theorem texpr_nm {br : Nat} {nm : Int} {tp : Option Addr} {tc : Nat} {ep : Option Addr} {ec : Nat}  : TExC br nm tp tc ep ec (.nm) := by
  intro w cs nodes h hx hno
  rw [show cs = nmC from hx]
  change Calls Tryz.prog 36 #[.pointer (some ⟨br, 0, none⟩), .agg #[.int .i64 2, .int .i64 0, .int .i64 0, .int .i64 0, .string ⟨#[80]⟩, .slice none 0 0], .agg #[.int .i64 32, .bool true]] w _
  have hno2 : nodes < 20000 := by have : nodes + 1 ≤ 20000 := hno; omega
  have HLf := Lib.hid (fun (w : World) (h : RSt br nm tp tc ep ec nodes w) => leaf_nm h)
  have g1 := Below.new w (.cells #[.int .i64 2, .int .i64 0, .int .i64 0, .int .i64 0, .string ⟨#[80]⟩, .slice none 0 0] 27)
  have g2 := Below.new (w.alloc (.cells #[.int .i64 2, .int .i64 0, .int .i64 0, .int .i64 0, .string ⟨#[80]⟩, .slice none 0 0] 27)) (.cells #[.int .i64 32, .bool true] 99)
  have g3 := Below.new ((w.alloc (.cells #[.int .i64 2, .int .i64 0, .int .i64 0, .int .i64 0, .string ⟨#[80]⟩, .slice none 0 0] 27)).alloc (.cells #[.int .i64 32, .bool true] 99)) (.cells #[.int .i64 0, .int .i64 0, .int .i64 0, .int .i64 0, .int .i64 0, .bool false, .int .i64 0, .slice none 0 0, .slice none 0 0] 42)
  have gg := Below.next (Below.next g1 g2) g3
  have H := Lib.hid (And.intro ((Blk.new (w := w) 27 [.int .i64 2, .int .i64 0, .int .i64 0, .int .i64 0, .string ⟨#[80]⟩, .slice none 0 0]).next (Below.next g2 g3)) (And.intro ((Blk.new (w := (w.alloc (.cells #[.int .i64 2, .int .i64 0, .int .i64 0, .int .i64 0, .string ⟨#[80]⟩, .slice none 0 0] 27))) 99 [.int .i64 32, .bool true]).next g3) (And.intro (Blk.new (w := ((w.alloc (.cells #[.int .i64 2, .int .i64 0, .int .i64 0, .int .i64 0, .string ⟨#[80]⟩, .slice none 0 0] 27)).alloc (.cells #[.int .i64 32, .bool true] 99))) 42 [.int .i64 0, .int .i64 0, .int .i64 0, .int .i64 0, .int .i64 0, .bool false, .int .i64 0, .slice none 0 0, .slice none 0 0]) (And.intro gg (And.intro (h.next gg) (And.intro h.bk.lt hno2))))))
  simp only [World.size_alloc] at H
  clear g1 g2 g3 gg h hx hno hno2
  go_enter Tryz.func36, Tryz.ntmps36
  go_upto_region 1 with fail
  change Hid (Blk (((w.alloc (.cells #[.int .i64 2, .int .i64 0, .int .i64 0, .int .i64 0, .string ⟨#[80]⟩, .slice none 0 0] 27)).alloc (.cells #[.int .i64 32, .bool true] 99)).alloc (.cells #[.int .i64 0, .int .i64 0, .int .i64 0, .int .i64 0, .int .i64 0, .bool false, .int .i64 0, .slice none 0 0, .slice none 0 0] 42)) _ _ _ ∧ _) at H
  generalize (((w.alloc (.cells #[.int .i64 2, .int .i64 0, .int .i64 0, .int .i64 0, .string ⟨#[80]⟩, .slice none 0 0] 27)).alloc (.cells #[.int .i64 32, .bool true] 99)).alloc (.cells #[.int .i64 0, .int .i64 0, .int .i64 0, .int .i64 0, .int .i64 0, .bool false, .int .i64 0, .slice none 0 0, .slice none 0 0] 42)) = w1 at *
  obtain ⟨b0, hb0⟩ : ∃ b, w.heap.size = b := ⟨_, rfl⟩
  obtain ⟨b1, hb1⟩ : ∃ b, b0 + 1 = b := ⟨_, rfl⟩
  obtain ⟨b2, hb2⟩ : ∃ b, b1 + 1 = b := ⟨_, rfl⟩
  rw [hb0] at H ⊢
  rw [hb1] at H ⊢
  rw [hb2] at H ⊢
  have HB := Lib.hid (And.intro hb0 (And.intro hb1 hb2))
  clear hb0 hb1 hb2
  have x0 := H.out.1.cell (i := 0) rfl
  have x1 := H.out.1.cell (i := 1) rfl
  have x2 := H.out.1.cell (i := 2) rfl
  have x3 := H.out.1.cell (i := 3) rfl
  have x4 := H.out.1.cell (i := 4) rfl
  have x5 := H.out.1.cell (i := 5) rfl
  have y0 := H.out.2.1.cell (i := 0) rfl
  have y1 := H.out.2.1.cell (i := 1) rfl
  have k5 := H.out.2.2.2.2.1.bk.cell (i := 5) rfl
  go_upto_region 18 with fail
  have HL : Hid (∀ W : World, Below w1.heap.size w1 W → Calls Tryz.prog 74 #[.pointer (some ⟨br, 0, none⟩), .agg #[.int .i64 2, .int .i64 0, .int .i64 0, .int .i64 0, .string ⟨#[80]⟩, .slice none 0 0]] W (LeafR W (lo32 nm))) := Lib.hid fun W hb => HLf.out W (H.out.2.2.2.2.1.next hb)
  have HWd := Lib.hid (fun (W : World) (p : Option Addr) (c : Nat) => wide_any (w := W) (k := 1) (op := 0) (vw := 32) (vp := p) (vn := 1) (vc := c) (ap := none) (an := 0) (ac := 0))
  have HTr := Lib.hid (Tr.nil w1)
  refine wp_region_webCR (w0 := w1) [.known (.pointer (some ⟨br, 0, none⟩)), .known (.pointer (some ⟨b0, 1, none⟩)), .known (.agg #[.int .i64 0, .int .i64 0, .int .i64 0]), .known (.pointer (some ⟨br, 0, none⟩)), .known (.agg #[.int .i64 2, .int .i64 0, .int .i64 0, .int .i64 0, .string ⟨#[80]⟩, .slice none 0 0]), .rel (fun v W => ∃ p c, v = .agg #[.int .i64 1, .int .i64 0, .int .i64 32, .int .i64 0, .int .i64 0, .bool false, .int .i64 32, .slice p 1 c, .slice none 0 0] ∧ VRA (fun k => w1.heap.size ≤ k) W p c (lo32 nm)) (fun _ => []), .known (.pointer (some ⟨b1, 0, none⟩)), .known (.int .i64 32), .known (.pointer (some ⟨b1, 1, none⟩)), .known (.bool true), .rel (fun v W => ∃ p c, v = .agg #[.int .i64 1, .int .i64 0, .int .i64 32, .int .i64 0, .int .i64 0, .bool false, .int .i64 32, .slice p 1 c, .slice none 0 0] ∧ VRA (fun k => w1.heap.size ≤ k) W p c (lo32 nm)) (fun _ => [])] [1, 1, 1, 1, 1, 1, 1, 1, 1, 1, 1] [] 107 2 #[true, true, true, true, true, true, true, true, true, true, true, false, false] (by kernel_rfl) (by kernel_rfl) rfl rfl rfl (Nat.le_of_ble_eq_true rfl) ⟨Sp.Mono.known, Sp.Mono.known, Sp.Mono.known, Sp.Mono.known, Sp.Mono.known, (fun _ _ _ hb ⟨p, c, h1, h2⟩ => ⟨p, c, h1, h2.turn fun k hk hl => ⟨hk, hb.block k hl⟩⟩), Sp.Mono.known, Sp.Mono.known, Sp.Mono.known, Sp.Mono.known, (fun _ _ _ hb ⟨p, c, h1, h2⟩ => ⟨p, c, h1, h2.turn fun k hk hl => ⟨hk, hb.block k hl⟩⟩), trivial⟩ HTr.out.drew (fun _ _ _ _ _ h => h) (A := ?_) ?_ ?_ ?_
  rotate_left
  · intro u
    simp only [fillC, Sp.val, Nat.reduceBEq, cond_false, Act.put, List.setIfInBounds_toArray, List.set_cons_zero, List.set_cons_succ]
    rfl
  iterate 5 (refine ob_yes (web_op (o := _) rfl (fun u W hT hd Q K hK => ?_)) ?_; · (have cc0 : W.cell? _ = some _ := After.cell x0 ⟨W, hT.bel⟩; have cc1 : W.cell? _ = some _ := After.cell x1 ⟨W, hT.bel⟩; have cc2 : W.cell? _ = some _ := After.cell x2 ⟨W, hT.bel⟩; have cc3 : W.cell? _ = some _ := After.cell x3 ⟨W, hT.bel⟩; have cc4 : W.cell? _ = some _ := After.cell x4 ⟨W, hT.bel⟩; have cc5 : W.cell? _ = some _ := After.cell x5 ⟨W, hT.bel⟩; have cc6 : W.cell? _ = some _ := After.cell y0 ⟨W, hT.bel⟩; have cc7 : W.cell? _ = some _ := After.cell y1 ⟨W, hT.bel⟩; go_simp; exact hK.out _ _ (Below.refl _ _) rfl (fun p hp => by cases hp) List.nodup_nil))
  refine ob_yes (web_op (o := _) rfl (fun u W hT hd Q K hK => ?_)) ?_
  · (try simp only [Act.put, List.setIfInBounds_toArray, List.set_cons_zero, List.set_cons_succ] at hK)
    have cc0 : W.cell? _ = some _ := After.cell x0 ⟨W, hT.bel⟩
    have cc1 : W.cell? _ = some _ := After.cell x1 ⟨W, hT.bel⟩
    have cc2 : W.cell? _ = some _ := After.cell x2 ⟨W, hT.bel⟩
    have cc3 : W.cell? _ = some _ := After.cell x3 ⟨W, hT.bel⟩
    have cc4 : W.cell? _ = some _ := After.cell x4 ⟨W, hT.bel⟩
    have cc5 : W.cell? _ = some _ := After.cell x5 ⟨W, hT.bel⟩
    have cc6 : W.cell? _ = some _ := After.cell y0 ⟨W, hT.bel⟩
    have cc7 : W.cell? _ = some _ := After.cell y1 ⟨W, hT.bel⟩
    go_simp
    refine (HL.out _ hT.bel).mono ?_; rintro r w9 ⟨p, c, rfl, hv, hb9⟩
    exact hK.out _ _ hb9 ⟨p, c, rfl, hv.turn fun k hk hl => ⟨Nat.le_trans hT.bel.size hk, rfl⟩⟩ (fun p hp => by cases hp) List.nodup_nil
  iterate 4 (refine ob_yes (web_op (o := _) rfl (fun u W hT hd Q K hK => ?_)) ?_; · (have cc0 : W.cell? _ = some _ := After.cell x0 ⟨W, hT.bel⟩; have cc1 : W.cell? _ = some _ := After.cell x1 ⟨W, hT.bel⟩; have cc2 : W.cell? _ = some _ := After.cell x2 ⟨W, hT.bel⟩; have cc3 : W.cell? _ = some _ := After.cell x3 ⟨W, hT.bel⟩; have cc4 : W.cell? _ = some _ := After.cell x4 ⟨W, hT.bel⟩; have cc5 : W.cell? _ = some _ := After.cell x5 ⟨W, hT.bel⟩; have cc6 : W.cell? _ = some _ := After.cell y0 ⟨W, hT.bel⟩; have cc7 : W.cell? _ = some _ := After.cell y1 ⟨W, hT.bel⟩; go_simp; exact hK.out _ _ (Below.refl _ _) rfl (fun p hp => by cases hp) List.nodup_nil))
  refine ob_yes (web_op (o := _) rfl (fun u W hT hd Q K hK => ?_)) ?_
  · have d5 := hd 5 (by kernel_rfl)
    generalize u 5 = x5 at *
    obtain ⟨p5, c5, rfl, hv5⟩ := d5
    (try simp only [Act.put, List.setIfInBounds_toArray, List.set_cons_zero, List.set_cons_succ] at hK)
    have cc0 : W.cell? _ = some _ := After.cell x0 ⟨W, hT.bel⟩
    have cc1 : W.cell? _ = some _ := After.cell x1 ⟨W, hT.bel⟩
    have cc2 : W.cell? _ = some _ := After.cell x2 ⟨W, hT.bel⟩
    have cc3 : W.cell? _ = some _ := After.cell x3 ⟨W, hT.bel⟩
    have cc4 : W.cell? _ = some _ := After.cell x4 ⟨W, hT.bel⟩
    have cc5 : W.cell? _ = some _ := After.cell x5 ⟨W, hT.bel⟩
    have cc6 : W.cell? _ = some _ := After.cell y0 ⟨W, hT.bel⟩
    have cc7 : W.cell? _ = some _ := After.cell y1 ⟨W, hT.bel⟩
    go_simp
    refine (HWd.out _ _ _).mono ?_; rintro r w9 ⟨rfl, hb9⟩
    exact hK.out _ _ hb9 ⟨p5, c5, rfl, hv5.turn fun k hk hl => ⟨hk, hb9.block k hl⟩⟩ (fun p hp => by cases hp) List.nodup_nil
  exact ob_nil
  intro u wx hT hok
  obtain ⟨h0, h1, h2, h3, h4, h5, h6, h7, h8, h9, h10, _⟩ := hok
  clear h0 h1 h2 h3 h4 h5 h6 h7 h8 h9
  simp only [ownsC, Sp.own, Nat.reduceBEq, cond_false, List.append_nil] at hT
  have d10 := h10 (by kernel_rfl)
  clear h10
  generalize u 10 = x10 at *
  obtain ⟨p9, c9, rfl, hv9⟩ := d10
  (try dsimp only [List.nil_append, List.cons_append] at hT)
  have HTE := Lib.hid hT
  clear hT
  clear HTr x0 x1 x2 x3 x4 x5 y0 y1 k5 HL HWd HLf
  refine wpAny_of_held (S := fun _ => True) _ _ _ _ ?_
  have hlt : br < w1.heap.size := H.out.2.2.2.2.1.bk.lt
  have HM := Lib.hid (made_any (k := 1) (op := 0) (vw := 32) (vp := p9) (vn := 1) (vc := c9) (ap := none) (an := 0) (ac := 0) (H.out.2.2.2.2.1.next HTE.out.bel) H.out.2.2.2.2.2.2)
  have hr2 := H.out.2.2.1.next HTE.out.bel
  have hu2 : Upd (One br) (One br) w wx := (Upd.below (by rw [HB.out.1]; exact H.out.2.2.2.1)).trans (Upd.below HTE.out.bel)
  refine wpAnyH_ready (rs := [11]) (by kernel_rfl) (by simp) ?_
  refine held_cons rfl (fun K hK => ?_) AllReadyH.nil
  go_simp
  refine HM.out.mono ?_; rintro r w8 ⟨rfl, hr8, hu8⟩
  (try go_simp)
  refine hK.out _ _ trivial (fun _ => ?_)
  clear hK K
  (try simp only [List.setIfInBounds_toArray, List.set_cons_zero, List.set_cons_succ])
  have hne2 : b2 ≠ br := by have := HB.out; have := H.out.2.2.2.2.2.1; omega
  have H8 := Lib.hid (And.intro (hr2.upd hu8 hne2) (And.intro hr8 (And.intro (hu2.trans hu8) (And.intro (VRA.upd hv9 hlt hu8) (And.intro hne2 H.out.2.2.1.lt)))))
  clear hr2 hr8 hu2 hu8 hv9 hne2 hlt HM
  refine wpAnyH_ready (rs := [12]) (by kernel_rfl) (by simp) ?_
  refine held_cons rfl (fun K hK => ?_) AllReadyH.nil
  refine step_store rfl _ _ _ rfl b2 [.int .i64 1, .int .i64 0, .int .i64 32, .int .i64 0, .int .i64 0, .bool false, .int .i64 32, .slice p9 1 c9, .slice none 0 0] rfl rfl H8.out.1 (Nat.le_refl _) sizeTE (by simp [Value.oneCell']) ?_
  refine hK.out _ _ trivial (fun _ => ?_)
  clear hK K
  (try simp only [Act.put, List.setIfInBounds_toArray, List.set_cons_zero, List.set_cons_succ])
  refine wpAnyH_done (by kernel_rfl) ?_ _
  have hk9 := H8.out.1.put [.int .i64 1, .int .i64 0, .int .i64 32, .int .i64 0, .int .i64 0, .bool false, .int .i64 32, .slice p9 1 c9, .slice none 0 0] rfl
  have hv9 := H8.out.2.2.2.1.turn (A' := fun k => w.heap.size ≤ k) (w' := w8.setCells b2 0 [.int .i64 1, .int .i64 0, .int .i64 32, .int .i64 0, .int .i64 0, .bool false, .int .i64 32, .slice p9 1 c9, .slice none 0 0]) fun k hk hl => ⟨by have := HB.out; have := H8.out.2.2.2.2.2; omega, setCells_other (by have := H8.out.2.2.2.2.2; omega) _ _⟩
  have hr9 := RSt.puts H8.out.2.2.2.2.1 (by have := HB.out; have := H.out.2.2.2.2.2.1; omega) [.int .i64 1, .int .i64 0, .int .i64 32, .int .i64 0, .int .i64 0, .bool false, .int .i64 32, .slice p9 1 c9, .slice none 0 0] 0 H8.out.2.1
  have hu9 := Upd.puts (B := w.heap.size) (b := b2) (by have := HB.out; omega) [.int .i64 1, .int .i64 0, .int .i64 32, .int .i64 0, .int .i64 0, .bool false, .int .i64 32, .slice p9 1 c9, .slice none 0 0] 0 rfl H8.out.2.2.1
  generalize w8.setCells b2 0 [.int .i64 1, .int .i64 0, .int .i64 32, .int .i64 0, .int .i64 0, .bool false, .int .i64 32, .slice p9 1 c9, .slice none 0 0] = w9 at *
  go_wp2_with fail
  exact bodyPost_ret (v := .agg #[.int .i64 1, .int .i64 0, .int .i64 32, .int .i64 0, .int .i64 0, .bool false, .int .i64 32, .slice p9 1 c9, .slice none 0 0]) (results_cell_row rfl _ _ b2 _ _ _ _ rfl hk9 Tryz.underlying42 rfl sizeTE) rfl ⟨[.int .i64 1, .int .i64 0, .int .i64 32, .int .i64 0, .int .i64 0, .bool false, .int .i64 32, .slice p9 1 c9, .slice none 0 0], rfl, ⟨p9, c9, rfl, hv9⟩, hr9, hu9⟩
end Go.Proofs.YtkoggfahjlnecaaGreatDoor
