import Derived.Test.YtkoggfahjlnecaaGreatDoorC24
namespace Go.Proofs.YtkoggfahjlnecaaGreatDoor
set_option linter.unusedVariables false
open Go.RowKit Go.Sort

/-! # typed.Value: an operator on vectors -/
theorem sizeVec : (Tryz.prog.info? 39).map (·.size) = some 2 := by kernel_rfl
set_option maxRecDepth 100000 in
set_option maxHeartbeats 4000000 in
theorem tval_un {w : World} {op : Int} {ap : Option Addr} {an ac vcp y : Nat} {L : Nat} {pa : Option Addr} {ca : Nat} (hL : Blk w L 39 [.int .i64 32, .slice pa 1 ca])
    (hcall : ∀ W : World, Below w.heap.size w W → Calls Tryz.prog 46 #[.int .i64 op, .agg #[.int .i64 32, .slice pa 1 ca]] W (RetE W 32 y 0)) : Calls Tryz.prog 22 #[.agg #[.int .i64 6, .int .i64 op, .int .i64 32, .int .i64 0, .int .i64 0, .bool false, .int .i64 0, .slice none 0 0, .slice ap an ac], .slice (some ⟨L, 0, none⟩) 1 vcp] w fun r w' => ∃ p c, r = .returned (.agg #[.int .i64 32, .slice p 1 c]) ∧ VRA (fun k => w.heap.size ≤ k) w' p c y ∧ Below w.heap.size w w' := by
  have g1 := Below.new w (.cells #[.int .i64 6, .int .i64 op, .int .i64 32, .int .i64 0, .int .i64 0, .bool false, .int .i64 0, .slice none 0 0, .slice ap an ac] 42)
  have g2 := Below.new (w.alloc (.cells #[.int .i64 6, .int .i64 op, .int .i64 32, .int .i64 0, .int .i64 0, .bool false, .int .i64 0, .slice none 0 0, .slice ap an ac] 42)) (.cells #[.int .i64 0, .slice none 0 0] 39)
  have g3 := Below.new ((w.alloc (.cells #[.int .i64 6, .int .i64 op, .int .i64 32, .int .i64 0, .int .i64 0, .bool false, .int .i64 0, .slice none 0 0, .slice ap an ac] 42)).alloc (.cells #[.int .i64 0, .slice none 0 0] 39)) (.cells #[.int .i64 0, .slice none 0 0] 39)
  have gg := Below.next (Below.next g1 g2) g3
  have H := Lib.hid (And.intro ((Blk.new (w := w) 42 [.int .i64 6, .int .i64 op, .int .i64 32, .int .i64 0, .int .i64 0, .bool false, .int .i64 0, .slice none 0 0, .slice ap an ac]).next (Below.next g2 g3)) (And.intro ((Blk.new (w := (w.alloc (.cells #[.int .i64 6, .int .i64 op, .int .i64 32, .int .i64 0, .int .i64 0, .bool false, .int .i64 0, .slice none 0 0, .slice ap an ac] 42))) 39 [.int .i64 0, .slice none 0 0]).next g3) (And.intro (Blk.new (w := ((w.alloc (.cells #[.int .i64 6, .int .i64 op, .int .i64 32, .int .i64 0, .int .i64 0, .bool false, .int .i64 0, .slice none 0 0, .slice ap an ac] 42)).alloc (.cells #[.int .i64 0, .slice none 0 0] 39))) 39 [.int .i64 0, .slice none 0 0]) (And.intro gg (hL.next gg)))))
  have HCl : Hid (∀ W : World, Below (((w.alloc (.cells #[.int .i64 6, .int .i64 op, .int .i64 32, .int .i64 0, .int .i64 0, .bool false, .int .i64 0, .slice none 0 0, .slice ap an ac] 42)).alloc (.cells #[.int .i64 0, .slice none 0 0] 39)).alloc (.cells #[.int .i64 0, .slice none 0 0] 39)).heap.size (((w.alloc (.cells #[.int .i64 6, .int .i64 op, .int .i64 32, .int .i64 0, .int .i64 0, .bool false, .int .i64 0, .slice none 0 0, .slice ap an ac] 42)).alloc (.cells #[.int .i64 0, .slice none 0 0] 39)).alloc (.cells #[.int .i64 0, .slice none 0 0] 39)) W → Calls Tryz.prog 46 #[.int .i64 op, .agg #[.int .i64 32, .slice pa 1 ca]] W (RetE W 32 y 0)) := Lib.hid fun W hb => hcall W (Below.next gg hb)
  simp only [World.size_alloc] at H
  clear g1 g2 g3 gg hL hcall
  go_enter Tryz.func22, Tryz.ntmps22
  go_upto_region 2 with fail
  change Hid (Blk (((w.alloc (.cells #[.int .i64 6, .int .i64 op, .int .i64 32, .int .i64 0, .int .i64 0, .bool false, .int .i64 0, .slice none 0 0, .slice ap an ac] 42)).alloc (.cells #[.int .i64 0, .slice none 0 0] 39)).alloc (.cells #[.int .i64 0, .slice none 0 0] 39)) _ _ _ ∧ _) at H
  change Hid (∀ W : World, Below (((w.alloc (.cells #[.int .i64 6, .int .i64 op, .int .i64 32, .int .i64 0, .int .i64 0, .bool false, .int .i64 0, .slice none 0 0, .slice ap an ac] 42)).alloc (.cells #[.int .i64 0, .slice none 0 0] 39)).alloc (.cells #[.int .i64 0, .slice none 0 0] 39)).heap.size (((w.alloc (.cells #[.int .i64 6, .int .i64 op, .int .i64 32, .int .i64 0, .int .i64 0, .bool false, .int .i64 0, .slice none 0 0, .slice ap an ac] 42)).alloc (.cells #[.int .i64 0, .slice none 0 0] 39)).alloc (.cells #[.int .i64 0, .slice none 0 0] 39)) W → _) at HCl
  generalize (((w.alloc (.cells #[.int .i64 6, .int .i64 op, .int .i64 32, .int .i64 0, .int .i64 0, .bool false, .int .i64 0, .slice none 0 0, .slice ap an ac] 42)).alloc (.cells #[.int .i64 0, .slice none 0 0] 39)).alloc (.cells #[.int .i64 0, .slice none 0 0] 39)) = w1 at *
  obtain ⟨b0, hb0⟩ : ∃ b, w.heap.size = b := ⟨_, rfl⟩
  obtain ⟨b1, hb1⟩ : ∃ b, b0 + 1 = b := ⟨_, rfl⟩
  obtain ⟨b2, hb2⟩ : ∃ b, b1 + 1 = b := ⟨_, rfl⟩
  rw [hb0] at H ⊢
  rw [hb1] at H ⊢
  rw [hb2] at H ⊢
  have HB := Lib.hid (And.intro hb0 (And.intro hb1 hb2))
  clear hb0 hb1 hb2
  have x0 := H.out.1.cell (i := 0) rfl
  have x1 := H.out.1.cell (i := 1) rfl
  go_upto_region 8 with fail
  have l0 := H.out.2.2.2.2.cell (i := 0) rfl
  have l1 := H.out.2.2.2.2.cell (i := 1) rfl
  have HTr := Lib.hid (Tr.nil w1)
  refine wp_region_webCR (w0 := w1) [.known (.pointer (some ⟨b0, 1, none⟩)), .known (.int .i64 op), .known (.slice (some ⟨L, 0, none⟩) 1 vcp), .known (.pointer (some ⟨L, 0, none⟩)), .known (.agg #[.int .i64 32, .slice pa 1 ca]), .rel (fun v W => ∃ p c, v = .tuple #[.agg #[.int .i64 32, .slice p 1 c], .int .i64 0] ∧ VRA (fun k => w1.heap.size ≤ k) W p c y) (fun _ => []), .rel (fun v W => ∃ p c, v = .tuple #[.agg #[.int .i64 32, .slice p 1 c], .int .i64 0] ∧ VRA (fun k => w1.heap.size ≤ k) W p c y) (fun _ => []), .rel (fun v W => ∃ p c, v = .agg #[.int .i64 32, .slice p 1 c] ∧ VRA (fun k => w1.heap.size ≤ k) W p c y) (fun _ => []), .rel (fun v W => v = .int .i64 0) (fun _ => [])] [1, 1, 1, 1, 1, 1, 1, 1, 2] [] 47 1 #[true, true, true, true, true, true, true, true, true, false] (by kernel_rfl) (by kernel_rfl) rfl rfl rfl (Nat.le_of_ble_eq_true rfl) ⟨Sp.Mono.known, Sp.Mono.known, Sp.Mono.known, Sp.Mono.known, Sp.Mono.known, (fun _ _ _ hb ⟨p, c, h1, h2⟩ => ⟨p, c, h1, h2.turn fun k hk hl => ⟨hk, hb.block k hl⟩⟩), (fun _ _ _ hb ⟨p, c, h1, h2⟩ => ⟨p, c, h1, h2.turn fun k hk hl => ⟨hk, hb.block k hl⟩⟩), (fun _ _ _ hb ⟨p, c, h1, h2⟩ => ⟨p, c, h1, h2.turn fun k hk hl => ⟨hk, hb.block k hl⟩⟩), (fun _ _ _ _ h => h), trivial⟩ HTr.out.drew (fun _ _ _ _ _ h => h) (A := ?_) ?_ ?_ ?_
  rotate_left
  · intro u
    simp only [fillC, Sp.val, Nat.reduceBEq, cond_false, Act.put, List.setIfInBounds_toArray, List.set_cons_zero, List.set_cons_succ]
    rfl
  iterate 5 (refine ob_yes (web_op (o := _) rfl (fun u W hT hd Q K hK => ?_)) ?_; · (have cc0 : W.cell? _ = some _ := After.cell x1 ⟨W, hT.bel⟩; have cc1 : W.cell? _ = some _ := After.cell l0 ⟨W, hT.bel⟩; have cc2 : W.cell? _ = some _ := After.cell l1 ⟨W, hT.bel⟩; go_simp; exact hK.out _ _ (Below.refl _ _) rfl (fun p hp => by cases hp) List.nodup_nil))
  refine ob_yes (web_op (o := _) rfl (fun u W hT hd Q K hK => ?_)) ?_
  · (try simp only [Act.put, List.setIfInBounds_toArray, List.set_cons_zero, List.set_cons_succ] at hK)
    have cc0 : W.cell? _ = some _ := After.cell x1 ⟨W, hT.bel⟩
    have cc1 : W.cell? _ = some _ := After.cell l0 ⟨W, hT.bel⟩
    have cc2 : W.cell? _ = some _ := After.cell l1 ⟨W, hT.bel⟩
    go_simp
    refine (HCl.out _ hT.bel).mono ?_; rintro r w9 ⟨v, rfl, hv, hb9, hf9⟩
    obtain ⟨p, c, e, _⟩ := hv.ex
    replace e : v = .agg #[.int .i64 32, .slice p 1 c] := e
    subst e
    exact hK.out _ _ hb9 ⟨p, c, rfl, (VRA.of hv hf9).turn fun k hk hl => ⟨Nat.le_trans hT.bel.size hk, rfl⟩⟩ (fun p hp => by cases hp) List.nodup_nil
  refine ob_yes (web_op (o := _) rfl (fun u W hT hd Q K hK => ?_)) ?_
  · have d5 := hd 5 (by kernel_rfl)
    generalize u 5 = x5 at *
    obtain ⟨pq, cq, rfl, hvq⟩ := d5
    (try simp only [Act.put, List.setIfInBounds_toArray, List.set_cons_zero, List.set_cons_succ] at hK)
    have cc0 : W.cell? _ = some _ := After.cell x1 ⟨W, hT.bel⟩
    have cc1 : W.cell? _ = some _ := After.cell l0 ⟨W, hT.bel⟩
    have cc2 : W.cell? _ = some _ := After.cell l1 ⟨W, hT.bel⟩
    go_simp
    exact hK.out _ _ (Below.refl _ _) ⟨pq, cq, rfl, hvq⟩ (fun p hp => by cases hp) List.nodup_nil
  refine ob_yes (web_op (o := _) rfl (fun u W hT hd Q K hK => ?_)) ?_
  · have d6 := hd 6 (by kernel_rfl)
    generalize u 6 = x6 at *
    obtain ⟨pr, cr, rfl, hvr⟩ := d6
    (try simp only [Act.put, List.setIfInBounds_toArray, List.set_cons_zero, List.set_cons_succ] at hK)
    have cc0 : W.cell? _ = some _ := After.cell x1 ⟨W, hT.bel⟩
    have cc1 : W.cell? _ = some _ := After.cell l0 ⟨W, hT.bel⟩
    have cc2 : W.cell? _ = some _ := After.cell l1 ⟨W, hT.bel⟩
    go_simp
    exact hK.out _ _ (Below.refl _ _) ⟨pr, cr, rfl, hvr⟩ (fun p hp => by cases hp) List.nodup_nil
  refine ob_pure (web_pure (o := _) rfl (fun u W hT hd => ?_)) ?_
  · have d6 := hd 6 (by kernel_rfl)
    generalize u 6 = x6 at *
    obtain ⟨pr, cr, rfl, hvr⟩ := d6
    have cc0 : W.cell? _ = some _ := After.cell x1 ⟨W, hT.bel⟩
    have cc1 : W.cell? _ = some _ := After.cell l0 ⟨W, hT.bel⟩
    have cc2 : W.cell? _ = some _ := After.cell l1 ⟨W, hT.bel⟩
    exact ⟨_, Or.inl ⟨rfl, fun w => rfl⟩, rfl, rfl⟩
  exact ob_nil
  intro u wx hT hok
  obtain ⟨h0, h1, h2, h3, h4, h5, h6, h7, h8, _⟩ := hok
  clear h0 h1 h2 h3 h4 h5 h6 h8
  simp only [ownsC, Sp.own, Nat.reduceBEq, cond_false, List.append_nil] at hT
  have d7 := h7 (by kernel_rfl)
  clear h7
  generalize u 7 = x7 at *
  obtain ⟨pz, cz, rfl, hvz⟩ := d7
  (try dsimp only [List.nil_append, List.cons_append] at hT)
  have HTE := Lib.hid hT
  clear hT
  clear HTr x1 l0 l1 x0 HCl
  refine wpAny_of_held (S := fun _ => True) _ _ _ _ ?_
  have hr2 := H.out.2.2.1.next HTE.out.bel
  have hr1 := H.out.2.1.next HTE.out.bel
  have hbw := Below.trans H.out.2.2.2.1 (HTE.out.bel.mono (by have h := H.out.1.lt; omega))
  have HVz := Lib.hid hvz
  clear hvz
  refine wpAnyH_ready (rs := [9]) (by kernel_rfl) (by simp) ?_
  refine held_cons rfl (fun K hK => ?_) AllReadyH.nil
  refine step_store rfl _ _ _ rfl b2 [.int .i64 32, .slice pz 1 cz] rfl rfl hr2 (Nat.le_refl _) sizeVec (by simp [Value.oneCell']) ?_
  refine hK.out _ _ trivial (fun _ => ?_)
  clear hK K
  (try simp only [Act.put, List.setIfInBounds_toArray, List.set_cons_zero, List.set_cons_succ])
  refine wpAnyH_done (by kernel_rfl) ?_ _
  have hne : b1 ≠ b2 := by have := HB.out; omega
  have hlt1 : b2 < w1.heap.size := H.out.2.2.1.lt
  have H8 := Lib.hid (And.intro (hr2.put [.int .i64 32, .slice pz 1 cz] rfl) (And.intro (Blk.far (b := b1) (c := b2) hne [.int .i64 32, .slice pz 1 cz] 0 hr1) (And.intro (Below.sets (b := b2) (by have := HB.out; omega) [.int .i64 32, .slice pz 1 cz] 0 hbw) (HVz.out.turn (A' := fun k => w1.heap.size ≤ k) (w' := wx.setCells b2 0 [.int .i64 32, .slice pz 1 cz]) fun k hk hl => ⟨hk, setCells_other (by omega) _ _⟩))))
  generalize hw8 : wx.setCells b2 0 [.int .i64 32, .slice pz 1 cz] = w8 at *
  clear hw8 hr2 hr1 hbw HVz HTE
  have z0 := H8.out.1.cell (i := 0) rfl
  have z1 := H8.out.1.cell (i := 1) rfl
  have r0 := H8.out.2.1.cell (i := 0) rfl
  have r1 := H8.out.2.1.cell (i := 1) rfl
  have f0 := H8.out.2.1.frz 0
  have f1 := H8.out.2.1.frz 1
  go_wp2_with fail
  have hk9 := H8.out.2.1.put [.int .i64 32, .slice pz 1 cz] rfl
  have hb9 := Below.sets (b := b1) (by have := HB.out; omega) [.int .i64 32, .slice pz 1 cz] 0 H8.out.2.2.1
  have hv9 := H8.out.2.2.2.turn (A' := fun k => w1.heap.size ≤ k) (w' := w8.setCells b1 0 [.int .i64 32, .slice pz 1 cz]) fun k hk hl => ⟨hk, setCells_other (by have := HB.out; omega) _ _⟩
  exact bodyPost_ret (v := .agg #[.int .i64 32, .slice pz 1 cz]) (results_cell_row rfl _ _ b1 _ _ _ _ rfl hk9 Tryz.underlying39 rfl sizeVec) rfl ⟨_, _, rfl, hv9.turn (fun k hk _ => ⟨by have := HB.out; omega, rfl⟩), by rw [HB.out.1]; exact hb9⟩
set_option maxRecDepth 100000 in
set_option maxHeartbeats 4000000 in
theorem tval_bin {w : World} {op : Int} {ap : Option Addr} {an ac vcp y : Nat} {L : Nat} {pa pb : Option Addr} {ca cb : Nat} (hL : Blk w L 39 [.int .i64 32, .slice pa 1 ca, .int .i64 32, .slice pb 1 cb])
    (hcall : ∀ W : World, Below w.heap.size w W → Calls Tryz.prog 47 #[.int .i64 op, .agg #[.int .i64 32, .slice pa 1 ca], .agg #[.int .i64 32, .slice pb 1 cb]] W (RetE W 32 y 0)) : Calls Tryz.prog 22 #[.agg #[.int .i64 7, .int .i64 op, .int .i64 32, .int .i64 0, .int .i64 0, .bool false, .int .i64 0, .slice none 0 0, .slice ap an ac], .slice (some ⟨L, 0, none⟩) 2 vcp] w fun r w' => ∃ p c, r = .returned (.agg #[.int .i64 32, .slice p 1 c]) ∧ VRA (fun k => w.heap.size ≤ k) w' p c y ∧ Below w.heap.size w w' := by
  have g1 := Below.new w (.cells #[.int .i64 7, .int .i64 op, .int .i64 32, .int .i64 0, .int .i64 0, .bool false, .int .i64 0, .slice none 0 0, .slice ap an ac] 42)
  have g2 := Below.new (w.alloc (.cells #[.int .i64 7, .int .i64 op, .int .i64 32, .int .i64 0, .int .i64 0, .bool false, .int .i64 0, .slice none 0 0, .slice ap an ac] 42)) (.cells #[.int .i64 0, .slice none 0 0] 39)
  have g3 := Below.new ((w.alloc (.cells #[.int .i64 7, .int .i64 op, .int .i64 32, .int .i64 0, .int .i64 0, .bool false, .int .i64 0, .slice none 0 0, .slice ap an ac] 42)).alloc (.cells #[.int .i64 0, .slice none 0 0] 39)) (.cells #[.int .i64 0, .slice none 0 0] 39)
  have gg := Below.next (Below.next g1 g2) g3
  have H := Lib.hid (And.intro ((Blk.new (w := w) 42 [.int .i64 7, .int .i64 op, .int .i64 32, .int .i64 0, .int .i64 0, .bool false, .int .i64 0, .slice none 0 0, .slice ap an ac]).next (Below.next g2 g3)) (And.intro ((Blk.new (w := (w.alloc (.cells #[.int .i64 7, .int .i64 op, .int .i64 32, .int .i64 0, .int .i64 0, .bool false, .int .i64 0, .slice none 0 0, .slice ap an ac] 42))) 39 [.int .i64 0, .slice none 0 0]).next g3) (And.intro (Blk.new (w := ((w.alloc (.cells #[.int .i64 7, .int .i64 op, .int .i64 32, .int .i64 0, .int .i64 0, .bool false, .int .i64 0, .slice none 0 0, .slice ap an ac] 42)).alloc (.cells #[.int .i64 0, .slice none 0 0] 39))) 39 [.int .i64 0, .slice none 0 0]) (And.intro gg (hL.next gg)))))
  have HCl : Hid (∀ W : World, Below (((w.alloc (.cells #[.int .i64 7, .int .i64 op, .int .i64 32, .int .i64 0, .int .i64 0, .bool false, .int .i64 0, .slice none 0 0, .slice ap an ac] 42)).alloc (.cells #[.int .i64 0, .slice none 0 0] 39)).alloc (.cells #[.int .i64 0, .slice none 0 0] 39)).heap.size (((w.alloc (.cells #[.int .i64 7, .int .i64 op, .int .i64 32, .int .i64 0, .int .i64 0, .bool false, .int .i64 0, .slice none 0 0, .slice ap an ac] 42)).alloc (.cells #[.int .i64 0, .slice none 0 0] 39)).alloc (.cells #[.int .i64 0, .slice none 0 0] 39)) W → Calls Tryz.prog 47 #[.int .i64 op, .agg #[.int .i64 32, .slice pa 1 ca], .agg #[.int .i64 32, .slice pb 1 cb]] W (RetE W 32 y 0)) := Lib.hid fun W hb => hcall W (Below.next gg hb)
  simp only [World.size_alloc] at H
  clear g1 g2 g3 gg hL hcall
  go_enter Tryz.func22, Tryz.ntmps22
  go_upto_region 2 with fail
  change Hid (Blk (((w.alloc (.cells #[.int .i64 7, .int .i64 op, .int .i64 32, .int .i64 0, .int .i64 0, .bool false, .int .i64 0, .slice none 0 0, .slice ap an ac] 42)).alloc (.cells #[.int .i64 0, .slice none 0 0] 39)).alloc (.cells #[.int .i64 0, .slice none 0 0] 39)) _ _ _ ∧ _) at H
  change Hid (∀ W : World, Below (((w.alloc (.cells #[.int .i64 7, .int .i64 op, .int .i64 32, .int .i64 0, .int .i64 0, .bool false, .int .i64 0, .slice none 0 0, .slice ap an ac] 42)).alloc (.cells #[.int .i64 0, .slice none 0 0] 39)).alloc (.cells #[.int .i64 0, .slice none 0 0] 39)).heap.size (((w.alloc (.cells #[.int .i64 7, .int .i64 op, .int .i64 32, .int .i64 0, .int .i64 0, .bool false, .int .i64 0, .slice none 0 0, .slice ap an ac] 42)).alloc (.cells #[.int .i64 0, .slice none 0 0] 39)).alloc (.cells #[.int .i64 0, .slice none 0 0] 39)) W → _) at HCl
  generalize (((w.alloc (.cells #[.int .i64 7, .int .i64 op, .int .i64 32, .int .i64 0, .int .i64 0, .bool false, .int .i64 0, .slice none 0 0, .slice ap an ac] 42)).alloc (.cells #[.int .i64 0, .slice none 0 0] 39)).alloc (.cells #[.int .i64 0, .slice none 0 0] 39)) = w1 at *
  obtain ⟨b0, hb0⟩ : ∃ b, w.heap.size = b := ⟨_, rfl⟩
  obtain ⟨b1, hb1⟩ : ∃ b, b0 + 1 = b := ⟨_, rfl⟩
  obtain ⟨b2, hb2⟩ : ∃ b, b1 + 1 = b := ⟨_, rfl⟩
  rw [hb0] at H ⊢
  rw [hb1] at H ⊢
  rw [hb2] at H ⊢
  have HB := Lib.hid (And.intro hb0 (And.intro hb1 hb2))
  clear hb0 hb1 hb2
  have x0 := H.out.1.cell (i := 0) rfl
  have x1 := H.out.1.cell (i := 1) rfl
  go_upto_region 10 with fail
  have l0 := H.out.2.2.2.2.cell (i := 0) rfl
  have l1 := H.out.2.2.2.2.cell (i := 1) rfl
  have l2 := H.out.2.2.2.2.cell (i := 2) rfl
  have l3 := H.out.2.2.2.2.cell (i := 3) rfl
  have HTr := Lib.hid (Tr.nil w1)
  refine wp_region_webCR (w0 := w1) [.known (.pointer (some ⟨b0, 1, none⟩)), .known (.int .i64 op), .known (.slice (some ⟨L, 0, none⟩) 2 vcp), .known (.pointer (some ⟨L, 0, none⟩)), .known (.agg #[.int .i64 32, .slice pa 1 ca]), .known (.slice (some ⟨L, 0, none⟩) 2 vcp), .known (.pointer (some ⟨L, 2, none⟩)), .known (.agg #[.int .i64 32, .slice pb 1 cb]), .rel (fun v W => ∃ p c, v = .tuple #[.agg #[.int .i64 32, .slice p 1 c], .int .i64 0] ∧ VRA (fun k => w1.heap.size ≤ k) W p c y) (fun _ => []), .rel (fun v W => ∃ p c, v = .tuple #[.agg #[.int .i64 32, .slice p 1 c], .int .i64 0] ∧ VRA (fun k => w1.heap.size ≤ k) W p c y) (fun _ => []), .rel (fun v W => ∃ p c, v = .agg #[.int .i64 32, .slice p 1 c] ∧ VRA (fun k => w1.heap.size ≤ k) W p c y) (fun _ => []), .rel (fun v W => v = .int .i64 0) (fun _ => [])] [1, 1, 1, 1, 1, 1, 1, 1, 1, 1, 1, 2] [] 61 1 #[true, true, true, true, true, true, true, true, true, true, true, true, false] (by kernel_rfl) (by kernel_rfl) rfl rfl rfl (Nat.le_of_ble_eq_true rfl) ⟨Sp.Mono.known, Sp.Mono.known, Sp.Mono.known, Sp.Mono.known, Sp.Mono.known, Sp.Mono.known, Sp.Mono.known, Sp.Mono.known, (fun _ _ _ hb ⟨p, c, h1, h2⟩ => ⟨p, c, h1, h2.turn fun k hk hl => ⟨hk, hb.block k hl⟩⟩), (fun _ _ _ hb ⟨p, c, h1, h2⟩ => ⟨p, c, h1, h2.turn fun k hk hl => ⟨hk, hb.block k hl⟩⟩), (fun _ _ _ hb ⟨p, c, h1, h2⟩ => ⟨p, c, h1, h2.turn fun k hk hl => ⟨hk, hb.block k hl⟩⟩), (fun _ _ _ _ h => h), trivial⟩ HTr.out.drew (fun _ _ _ _ _ h => h) (A := ?_) ?_ ?_ ?_
  rotate_left
  · intro u
    simp only [fillC, Sp.val, Nat.reduceBEq, cond_false, Act.put, List.setIfInBounds_toArray, List.set_cons_zero, List.set_cons_succ]
    rfl
  iterate 8 (refine ob_yes (web_op (o := _) rfl (fun u W hT hd Q K hK => ?_)) ?_; · (have cc0 : W.cell? _ = some _ := After.cell x1 ⟨W, hT.bel⟩; have cc1 : W.cell? _ = some _ := After.cell l0 ⟨W, hT.bel⟩; have cc2 : W.cell? _ = some _ := After.cell l1 ⟨W, hT.bel⟩; have cc3 : W.cell? _ = some _ := After.cell l2 ⟨W, hT.bel⟩; have cc4 : W.cell? _ = some _ := After.cell l3 ⟨W, hT.bel⟩; go_simp; exact hK.out _ _ (Below.refl _ _) rfl (fun p hp => by cases hp) List.nodup_nil))
  refine ob_yes (web_op (o := _) rfl (fun u W hT hd Q K hK => ?_)) ?_
  · (try simp only [Act.put, List.setIfInBounds_toArray, List.set_cons_zero, List.set_cons_succ] at hK)
    have cc0 : W.cell? _ = some _ := After.cell x1 ⟨W, hT.bel⟩
    have cc1 : W.cell? _ = some _ := After.cell l0 ⟨W, hT.bel⟩
    have cc2 : W.cell? _ = some _ := After.cell l1 ⟨W, hT.bel⟩
    have cc3 : W.cell? _ = some _ := After.cell l2 ⟨W, hT.bel⟩
    have cc4 : W.cell? _ = some _ := After.cell l3 ⟨W, hT.bel⟩
    go_simp
    refine (HCl.out _ hT.bel).mono ?_; rintro r w9 ⟨v, rfl, hv, hb9, hf9⟩
    obtain ⟨p, c, e, _⟩ := hv.ex
    replace e : v = .agg #[.int .i64 32, .slice p 1 c] := e
    subst e
    exact hK.out _ _ hb9 ⟨p, c, rfl, (VRA.of hv hf9).turn fun k hk hl => ⟨Nat.le_trans hT.bel.size hk, rfl⟩⟩ (fun p hp => by cases hp) List.nodup_nil
  refine ob_yes (web_op (o := _) rfl (fun u W hT hd Q K hK => ?_)) ?_
  · have d8 := hd 8 (by kernel_rfl)
    generalize u 8 = x8 at *
    obtain ⟨pq, cq, rfl, hvq⟩ := d8
    (try simp only [Act.put, List.setIfInBounds_toArray, List.set_cons_zero, List.set_cons_succ] at hK)
    have cc0 : W.cell? _ = some _ := After.cell x1 ⟨W, hT.bel⟩
    have cc1 : W.cell? _ = some _ := After.cell l0 ⟨W, hT.bel⟩
    have cc2 : W.cell? _ = some _ := After.cell l1 ⟨W, hT.bel⟩
    have cc3 : W.cell? _ = some _ := After.cell l2 ⟨W, hT.bel⟩
    have cc4 : W.cell? _ = some _ := After.cell l3 ⟨W, hT.bel⟩
    go_simp
    exact hK.out _ _ (Below.refl _ _) ⟨pq, cq, rfl, hvq⟩ (fun p hp => by cases hp) List.nodup_nil
  refine ob_yes (web_op (o := _) rfl (fun u W hT hd Q K hK => ?_)) ?_
  · have d9 := hd 9 (by kernel_rfl)
    generalize u 9 = x9 at *
    obtain ⟨pr, cr, rfl, hvr⟩ := d9
    (try simp only [Act.put, List.setIfInBounds_toArray, List.set_cons_zero, List.set_cons_succ] at hK)
    have cc0 : W.cell? _ = some _ := After.cell x1 ⟨W, hT.bel⟩
    have cc1 : W.cell? _ = some _ := After.cell l0 ⟨W, hT.bel⟩
    have cc2 : W.cell? _ = some _ := After.cell l1 ⟨W, hT.bel⟩
    have cc3 : W.cell? _ = some _ := After.cell l2 ⟨W, hT.bel⟩
    have cc4 : W.cell? _ = some _ := After.cell l3 ⟨W, hT.bel⟩
    go_simp
    exact hK.out _ _ (Below.refl _ _) ⟨pr, cr, rfl, hvr⟩ (fun p hp => by cases hp) List.nodup_nil
  refine ob_pure (web_pure (o := _) rfl (fun u W hT hd => ?_)) ?_
  · have d9 := hd 9 (by kernel_rfl)
    generalize u 9 = x9 at *
    obtain ⟨pr, cr, rfl, hvr⟩ := d9
    have cc0 : W.cell? _ = some _ := After.cell x1 ⟨W, hT.bel⟩
    have cc1 : W.cell? _ = some _ := After.cell l0 ⟨W, hT.bel⟩
    have cc2 : W.cell? _ = some _ := After.cell l1 ⟨W, hT.bel⟩
    have cc3 : W.cell? _ = some _ := After.cell l2 ⟨W, hT.bel⟩
    have cc4 : W.cell? _ = some _ := After.cell l3 ⟨W, hT.bel⟩
    exact ⟨_, Or.inl ⟨rfl, fun w => rfl⟩, rfl, rfl⟩
  exact ob_nil
  intro u wx hT hok
  obtain ⟨h0, h1, h2, h3, h4, h5, h6, h7, h8, h9, h10, h11, _⟩ := hok
  clear h0 h1 h2 h3 h4 h5 h6 h7 h8 h9 h11
  simp only [ownsC, Sp.own, Nat.reduceBEq, cond_false, List.append_nil] at hT
  have d10 := h10 (by kernel_rfl)
  clear h10
  generalize u 10 = x10 at *
  obtain ⟨pz, cz, rfl, hvz⟩ := d10
  (try dsimp only [List.nil_append, List.cons_append] at hT)
  have HTE := Lib.hid hT
  clear hT
  clear HTr x1 l0 l1 l2 l3 x0 HCl
  refine wpAny_of_held (S := fun _ => True) _ _ _ _ ?_
  have hr2 := H.out.2.2.1.next HTE.out.bel
  have hr1 := H.out.2.1.next HTE.out.bel
  have hbw := Below.trans H.out.2.2.2.1 (HTE.out.bel.mono (by have h := H.out.1.lt; omega))
  have HVz := Lib.hid hvz
  clear hvz
  refine wpAnyH_ready (rs := [12]) (by kernel_rfl) (by simp) ?_
  refine held_cons rfl (fun K hK => ?_) AllReadyH.nil
  refine step_store rfl _ _ _ rfl b2 [.int .i64 32, .slice pz 1 cz] rfl rfl hr2 (Nat.le_refl _) sizeVec (by simp [Value.oneCell']) ?_
  refine hK.out _ _ trivial (fun _ => ?_)
  clear hK K
  (try simp only [Act.put, List.setIfInBounds_toArray, List.set_cons_zero, List.set_cons_succ])
  refine wpAnyH_done (by kernel_rfl) ?_ _
  have hne : b1 ≠ b2 := by have := HB.out; omega
  have hlt1 : b2 < w1.heap.size := H.out.2.2.1.lt
  have H8 := Lib.hid (And.intro (hr2.put [.int .i64 32, .slice pz 1 cz] rfl) (And.intro (Blk.far (b := b1) (c := b2) hne [.int .i64 32, .slice pz 1 cz] 0 hr1) (And.intro (Below.sets (b := b2) (by have := HB.out; omega) [.int .i64 32, .slice pz 1 cz] 0 hbw) (HVz.out.turn (A' := fun k => w1.heap.size ≤ k) (w' := wx.setCells b2 0 [.int .i64 32, .slice pz 1 cz]) fun k hk hl => ⟨hk, setCells_other (by omega) _ _⟩))))
  generalize hw8 : wx.setCells b2 0 [.int .i64 32, .slice pz 1 cz] = w8 at *
  clear hw8 hr2 hr1 hbw HVz HTE
  have z0 := H8.out.1.cell (i := 0) rfl
  have z1 := H8.out.1.cell (i := 1) rfl
  have r0 := H8.out.2.1.cell (i := 0) rfl
  have r1 := H8.out.2.1.cell (i := 1) rfl
  have f0 := H8.out.2.1.frz 0
  have f1 := H8.out.2.1.frz 1
  go_wp2_with fail
  have hk9 := H8.out.2.1.put [.int .i64 32, .slice pz 1 cz] rfl
  have hb9 := Below.sets (b := b1) (by have := HB.out; omega) [.int .i64 32, .slice pz 1 cz] 0 H8.out.2.2.1
  have hv9 := H8.out.2.2.2.turn (A' := fun k => w1.heap.size ≤ k) (w' := w8.setCells b1 0 [.int .i64 32, .slice pz 1 cz]) fun k hk hl => ⟨hk, setCells_other (by have := HB.out; omega) _ _⟩
  exact bodyPost_ret (v := .agg #[.int .i64 32, .slice pz 1 cz]) (results_cell_row rfl _ _ b1 _ _ _ _ rfl hk9 Tryz.underlying39 rfl sizeVec) rfl ⟨_, _, rfl, hv9.turn (fun k hk _ => ⟨by have := HB.out; omega, rfl⟩), by rw [HB.out.1]; exact hb9⟩
end Go.Proofs.YtkoggfahjlnecaaGreatDoor
