import Derived.Test.YtkoggfahjlnecaaGreatDoorC17
namespace Go.Proofs.YtkoggfahjlnecaaGreatDoor
set_option linter.unusedVariables false
open Go.RowKit Go.Sort

/-! # typed: Num; made -/
theorem step_store {P : Program} {w : World} {ops : Array Oper} {o : Oper} {a : Act} {K : Act → World → Prop} {Q : Exit → Act → World → Prop} {E : Prop} (hgd : o.guard = none) (ty : TypeId) (x y : Operand) (ho : o.op = .store ty x y)
    (b : Nat) (cells : List Value) (hx : a.eval x = .pointer (some ⟨b, 0, none⟩)) (hy : a.eval y = .agg cells.toArray) {t : TypeId} {l : List Value} (hk : Blk w b t l) (hl : cells.length ≤ l.length) (hi : (P.info? ty).map (·.size) = some cells.length)
    (h1 : ∀ u ∈ cells, u.oneCell' = true) (h : K (a.put o.dst undef) (w.setCells b 0 cells)) : if Region.wanted o (yielded ops a.tmps) = true then Oper.wp P o a w K Q else E := by
  have hw : Region.wanted o (yielded ops a.tmps) = true := by simp [Region.wanted, hgd]
  rw [if_pos hw]
  refine wp_store_mid ty x y ho b 0 cells.toArray hx hy (fun j hj => ?_) (by simpa using hi) (all_oneCell_toArray h1) (by simpa using h)
  have hj' : j < l.length := Nat.lt_of_lt_of_le (by simpa using hj) hl
  rw [Nat.zero_add]
  exact ⟨by rw [hk.cell (List.getElem?_eq_getElem hj')]; rfl, hk.frz j⟩
theorem RSt.tick {br : Nat} {nm : Int} {tp : Option Addr} {tc : Nat} {ep : Option Addr} {ec nodes : Nat} {w : World} (h : RSt br nm tp tc ep ec nodes w) (n1 : Nat) : RSt br nm tp tc ep ec n1 (w.setCell ⟨br, 6, none⟩ (.int .i64 (n1 : Nat))) := by
  have hb := Below.setCell (Below.refl br w) (p := ⟨br, 6, none⟩) (Nat.le_refl br) (.int .i64 (n1 : Nat))
  obtain ⟨m, h1, h2⟩ := h.mx
  exact ⟨h.bk.set 6 (.int .i64 (n1 : Nat)), h.th.turn fun k hk hl => ⟨hk, hb.block k hk⟩, h.env.turn fun k hk hl => ⟨hk, hb.block k hk⟩, m, (hb.cell h2).trans h1, h2⟩
theorem RSt.puts {br : Nat} {nm : Int} {tp : Option Addr} {tc : Nat} {ep : Option Addr} {ec nodes b : Nat} (hne : b ≠ br) (hb : br < b) : ∀ (vs : List Value) (o : Nat) {w : World}, RSt br nm tp tc ep ec nodes w → RSt br nm tp tc ep ec nodes (w.setCells b o vs)
  | [], _, _, h => h
  | v :: r, o, w, h => RSt.puts hne hb r (o + 1) (by
    have hl := Below.setCell (Below.refl b w) (p := ⟨b, o, none⟩) (Nat.le_refl b) v
    obtain ⟨m, h1, h2⟩ := h.mx
    exact ⟨h.bk.other (a := ⟨b, o, none⟩) v (Ne.symm hne), h.th.turn fun k hk _ => ⟨hk, hl.block k (Nat.lt_trans hk hb)⟩, h.env.turn fun k hk _ => ⟨hk, hl.block k (Nat.lt_trans hk hb)⟩, m, (hl.cell (Nat.lt_trans h2 hb)).trans h1, h2⟩)
theorem Upd.puts {br b B : Nat} (hB : B ≤ b) : ∀ (vs : List Value) (o : Nat) {w w' : World}, w.heap.size = B → Upd (One br) (One br) w w' → Upd (One br) (One br) w (w'.setCells b o vs)
  | [], _, _, _, _, h => h
  | v :: r, o, w, w', e, h => Upd.puts hB r (o + 1) e ⟨h.os, h.tape, h.output, by have := h.size; simpa using this, fun k hk hn => (Below.heap_setCell _ _ _ _ (fun e2 => by have : k = b := e2; omega)).trans (h.block k hk hn), h.sub⟩
set_option maxRecDepth 100000 in
set_option maxHeartbeats 4000000 in
theorem tnum_any {w : World} {p : Option Addr} {c x : Nat} (hv : VR w (.agg #[.int .i64 32, .slice p 1 c]) 32 x) : Calls Tryz.prog 107 #[.agg #[.int .i64 32, .slice p 1 c]] w fun r w' => r = .returned (.agg #[.int .i64 1, .int .i64 0, .int .i64 32, .int .i64 0, .int .i64 0, .bool false, .int .i64 32, .slice p 1 c, .slice none 0 0]) ∧ Below w.heap.size w w' := by
  have g1 := Below.new w (.cells #[.int .i64 32, .slice p 1 c] 39)
  have g2 := Below.new (w.alloc (.cells #[.int .i64 32, .slice p 1 c] 39)) (.cells #[.int .i64 0, .int .i64 0, .int .i64 0, .int .i64 0, .int .i64 0, .bool false, .int .i64 0, .slice none 0 0, .slice none 0 0] 42)
  have gg := Below.next g1 g2
  have H := Lib.hid (And.intro ((Blk.new (w := w) 39 [.int .i64 32, .slice p 1 c]).next g2) (And.intro (Blk.new (w := (w.alloc (.cells #[.int .i64 32, .slice p 1 c] 39))) 42 [.int .i64 0, .int .i64 0, .int .i64 0, .int .i64 0, .int .i64 0, .bool false, .int .i64 0, .slice none 0 0, .slice none 0 0]) (And.intro gg (hv.below gg))))
  simp only [World.size_alloc] at H
  clear g1 g2 gg hv
  go_enter Tryz.func107, Tryz.ntmps107
  go_upto_region 1 with fail
  change Hid (Blk ((w.alloc (.cells #[.int .i64 32, .slice p 1 c] 39)).alloc (.cells #[.int .i64 0, .int .i64 0, .int .i64 0, .int .i64 0, .int .i64 0, .bool false, .int .i64 0, .slice none 0 0, .slice none 0 0] 42)) _ _ _ ∧ _) at H
  generalize ((w.alloc (.cells #[.int .i64 32, .slice p 1 c] 39)).alloc (.cells #[.int .i64 0, .int .i64 0, .int .i64 0, .int .i64 0, .int .i64 0, .bool false, .int .i64 0, .slice none 0 0, .slice none 0 0] 42)) = w1 at *
  obtain ⟨b0, hb0⟩ : ∃ b, w.heap.size = b := ⟨_, rfl⟩
  obtain ⟨b1, hb1⟩ : ∃ b, b0 + 1 = b := ⟨_, rfl⟩
  rw [hb0] at H ⊢
  rw [hb1] at H ⊢
  have HB := Lib.hid (And.intro hb0 hb1)
  clear hb0 hb1
  have v0 := H.out.1.cell (i := 0) rfl
  have v1 := H.out.1.cell (i := 1) rfl
  have HW : Hid (∀ W : World, Below w1.heap.size w1 W → Calls Tryz.prog 10 #[.agg #[.int .i64 32, .slice p 1 c]] W fun e w2 => e = .returned (.int .i64 32) ∧ Below W.heap.size W w2) := Lib.hid fun W hb => width_any (H.out.2.2.2.below hb)
  have HTr := Lib.hid (Tr.nil w1)
  refine wp_region_webC (w0 := w1) [.known (.agg #[.int .i64 32, .slice p 1 c]), .known (.int .i64 32), .known (.agg #[.int .i64 32, .slice p 1 c]), .known (.agg #[.int .i64 1, .int .i64 0, .int .i64 32, .int .i64 0, .int .i64 0, .bool false, .int .i64 32, .slice p 1 c, .slice none 0 0])] [1, 1, 1, 1] [] 7 1 #[true, true, true, true, false] (by kernel_rfl) (by kernel_rfl) rfl rfl rfl (Nat.le_of_ble_eq_true rfl) ⟨Sp.Mono.known, Sp.Mono.known, Sp.Mono.known, Sp.Mono.known, trivial⟩ HTr.out.drew (fun _ _ _ _ _ h => h) (A := ?_) ?_ ?_ ?_
  rotate_left
  · intro u
    simp only [fillC, Sp.val, Nat.reduceBEq, cond_false, Act.put, List.setIfInBounds_toArray, List.set_cons_zero, List.set_cons_succ]
    rfl
  (refine ob_yes (web_op (o := _) rfl (fun u W hT hd Q K hK => ?_)) ?_; · (have cc0 : W.cell? _ = some _ := After.cell v0 ⟨W, hT.bel⟩; have cc1 : W.cell? _ = some _ := After.cell v1 ⟨W, hT.bel⟩; go_simp; exact hK.out _ _ (Below.refl _ _) rfl (fun p hp => by cases hp) List.nodup_nil))
  refine ob_yes (web_op (o := _) rfl (fun u W hT hd Q K hK => ?_)) ?_
  · (try simp only [Act.put, List.setIfInBounds_toArray, List.set_cons_zero, List.set_cons_succ] at hK)
    have cc0 : W.cell? _ = some _ := After.cell v0 ⟨W, hT.bel⟩
    have cc1 : W.cell? _ = some _ := After.cell v1 ⟨W, hT.bel⟩
    go_simp
    refine (HW.out _ hT.bel).mono ?_; rintro r w9 ⟨rfl, hb9⟩
    exact hK.out _ _ hb9 rfl (fun p hp => by cases hp) List.nodup_nil
  iterate 2 (refine ob_yes (web_op (o := _) rfl (fun u W hT hd Q K hK => ?_)) ?_; · (have cc0 : W.cell? _ = some _ := After.cell v0 ⟨W, hT.bel⟩; have cc1 : W.cell? _ = some _ := After.cell v1 ⟨W, hT.bel⟩; go_simp; exact hK.out _ _ (Below.refl _ _) rfl (fun p hp => by cases hp) List.nodup_nil))
  exact ob_nil
  intro u wx hT hok
  obtain ⟨h0, h1, h2, h3, _⟩ := hok
  clear h0 h1 h2 h3
  simp only [ownsC, Sp.own, Nat.reduceBEq, cond_false, List.append_nil] at hT
  (try dsimp only [List.nil_append, List.cons_append] at hT)
  have HTE := Lib.hid hT
  clear hT
  clear HTr v0 v1 HW
  have H5 := Lib.hid (And.intro (H.out.2.1.next HTE.out.bel) (Below.trans H.out.2.2.1 (HTE.out.bel.mono (by have h := H.out.1.lt; have := HB.out; omega))))
  clear H HTE
  refine wpAny_of_held (S := fun _ => True) _ _ _ _ ?_
  refine wpAnyH_ready (rs := [4]) (by kernel_rfl) (by simp) ?_
  refine held_cons rfl (fun K hK => ?_) AllReadyH.nil
  refine step_store rfl _ _ _ rfl b1 [.int .i64 1, .int .i64 0, .int .i64 32, .int .i64 0, .int .i64 0, .bool false, .int .i64 32, .slice p 1 c, .slice none 0 0] rfl rfl H5.out.1 (Nat.le_refl _) sizeTE (by simp [Value.oneCell']) ?_
  refine hK.out _ _ trivial (fun _ => ?_)
  clear hK K
  (try simp only [Act.put, List.setIfInBounds_toArray, List.set_cons_zero, List.set_cons_succ])
  refine wpAnyH_done (by kernel_rfl) ?_ _
  have hk9 := H5.out.1.put [.int .i64 1, .int .i64 0, .int .i64 32, .int .i64 0, .int .i64 0, .bool false, .int .i64 32, .slice p 1 c, .slice none 0 0] rfl
  have hb9 := Below.sets (b := b1) (by have := HB.out; omega) [.int .i64 1, .int .i64 0, .int .i64 32, .int .i64 0, .int .i64 0, .bool false, .int .i64 32, .slice p 1 c, .slice none 0 0] 0 H5.out.2
  generalize wx.setCells b1 0 [.int .i64 1, .int .i64 0, .int .i64 32, .int .i64 0, .int .i64 0, .bool false, .int .i64 32, .slice p 1 c, .slice none 0 0] = w9 at *
  go_wp2_with fail
  exact bodyPost_ret (v := .agg #[.int .i64 1, .int .i64 0, .int .i64 32, .int .i64 0, .int .i64 0, .bool false, .int .i64 32, .slice p 1 c, .slice none 0 0]) (results_cell_row rfl _ _ b1 _ _ _ _ rfl hk9 Tryz.underlying42 rfl sizeTE) rfl ⟨rfl, by rw [HB.out.1]; exact hb9⟩
set_option maxRecDepth 100000 in
set_option maxHeartbeats 4000000 in
theorem made_any {br : Nat} {nm : Int} {tp : Option Addr} {tc : Nat} {ep : Option Addr} {ec nodes : Nat} {w : World} {k op vw : Int} {vp ap : Option Addr} {vn vc an ac : Nat} (h : RSt br nm tp tc ep ec nodes w) (hn : nodes < 20000) : Calls Tryz.prog 67 #[.pointer (some ⟨br, 0, none⟩), .agg #[.int .i64 0, .int .i64 0, .int .i64 0], .agg #[.int .i64 k, .int .i64 op, .int .i64 32, .int .i64 0, .int .i64 0, .bool false, .int .i64 vw, .slice vp vn vc, .slice ap an ac]] w fun r w' => r = .returned (.agg #[.int .i64 k, .int .i64 op, .int .i64 32, .int .i64 0, .int .i64 0, .bool false, .int .i64 vw, .slice vp vn vc, .slice ap an ac]) ∧ RSt br nm tp tc ep ec (nodes + 1) w' ∧ Upd (One br) (One br) w w' := by
  obtain ⟨n1, hn1⟩ : ∃ x, nodes + 1 = x := ⟨_, rfl⟩
  rw [hn1]
  have hw : IntKind.i64.wrap ((nodes : Int) + 1) = (n1 : Int) := by rw [i64_of (by omega)]; omega
  have hg : decide (20000 < n1) = false := decide_eq_false (by omega)
  have hg2 : ¬ (20000 : Int) < (n1 : Int) := by omega
  clear hn1
  have g1 := Below.new w (.cells #[.int .i64 0, .int .i64 0, .int .i64 0] 24)
  have g2 := Below.new (w.alloc (.cells #[.int .i64 0, .int .i64 0, .int .i64 0] 24)) (.cells #[.int .i64 k, .int .i64 op, .int .i64 32, .int .i64 0, .int .i64 0, .bool false, .int .i64 vw, .slice vp vn vc, .slice ap an ac] 42)
  have g3 := Below.new ((w.alloc (.cells #[.int .i64 0, .int .i64 0, .int .i64 0] 24)).alloc (.cells #[.int .i64 k, .int .i64 op, .int .i64 32, .int .i64 0, .int .i64 0, .bool false, .int .i64 vw, .slice vp vn vc, .slice ap an ac] 42)) (.cells #[.int .i64 0, .int .i64 0, .int .i64 0, .int .i64 0, .int .i64 0, .bool false, .int .i64 0, .slice none 0 0, .slice none 0 0] 42)
  have gg := Below.next (Below.next g1 g2) g3
  have H := Lib.hid (And.intro ((Blk.new (w := (w.alloc (.cells #[.int .i64 0, .int .i64 0, .int .i64 0] 24))) 42 [.int .i64 k, .int .i64 op, .int .i64 32, .int .i64 0, .int .i64 0, .bool false, .int .i64 vw, .slice vp vn vc, .slice ap an ac]).next g3) (And.intro (Blk.new (w := ((w.alloc (.cells #[.int .i64 0, .int .i64 0, .int .i64 0] 24)).alloc (.cells #[.int .i64 k, .int .i64 op, .int .i64 32, .int .i64 0, .int .i64 0, .bool false, .int .i64 vw, .slice vp vn vc, .slice ap an ac] 42))) 42 [.int .i64 0, .int .i64 0, .int .i64 0, .int .i64 0, .int .i64 0, .bool false, .int .i64 0, .slice none 0 0, .slice none 0 0]) (And.intro (Upd.below (F := One br) gg) (And.intro (h.next gg) h.bk.lt))))
  simp only [World.size_alloc] at H
  clear g1 g2 g3 gg h hn
  go_enter Tryz.func67, Tryz.ntmps67
  go_upto_region 1 with fail
  change Hid (Blk (((w.alloc (.cells #[.int .i64 0, .int .i64 0, .int .i64 0] 24)).alloc (.cells #[.int .i64 k, .int .i64 op, .int .i64 32, .int .i64 0, .int .i64 0, .bool false, .int .i64 vw, .slice vp vn vc, .slice ap an ac] 42)).alloc (.cells #[.int .i64 0, .int .i64 0, .int .i64 0, .int .i64 0, .int .i64 0, .bool false, .int .i64 0, .slice none 0 0, .slice none 0 0] 42)) _ _ _ ∧ _) at H
  generalize (((w.alloc (.cells #[.int .i64 0, .int .i64 0, .int .i64 0] 24)).alloc (.cells #[.int .i64 k, .int .i64 op, .int .i64 32, .int .i64 0, .int .i64 0, .bool false, .int .i64 vw, .slice vp vn vc, .slice ap an ac] 42)).alloc (.cells #[.int .i64 0, .int .i64 0, .int .i64 0, .int .i64 0, .int .i64 0, .bool false, .int .i64 0, .slice none 0 0, .slice none 0 0] 42)) = w1 at *
  obtain ⟨b0, hb0⟩ : ∃ b, w.heap.size = b := ⟨_, rfl⟩
  obtain ⟨b1, hb1⟩ : ∃ b, b0 + 1 = b := ⟨_, rfl⟩
  obtain ⟨b2, hb2⟩ : ∃ b, b1 + 1 = b := ⟨_, rfl⟩
  rw [hb0] at H ⊢
  rw [hb1] at H ⊢
  rw [hb2] at H ⊢
  have HB := Lib.hid (And.intro hb0 (And.intro hb1 hb2))
  clear hb0 hb1 hb2
  have k6 := H.out.2.2.2.1.bk.cell (i := 6) rfl
  have kf := H.out.2.2.2.1.bk.frz 6
  go_upto_region 2 with fail
  have hne1 : b1 ≠ br := by have := H.out.2.2.2.2; have := HB.out; omega
  have hne2 : b2 ≠ br := by have := H.out.2.2.2.2; have := HB.out; omega
  have H2 := Lib.hid (And.intro (H.out.1.other (a := ⟨br, 6, none⟩) (.int .i64 (n1 : Nat)) hne1) (And.intro (H.out.2.1.other (a := ⟨br, 6, none⟩) (.int .i64 (n1 : Nat)) hne2) (And.intro (H.out.2.2.1.trans (upd_cell1 (i := 6) (.int .i64 (n1 : Nat)))) (And.intro (H.out.2.2.2.1.tick n1) hne2))))
  clear k6 kf hne1 hne2
  change Hid (Blk (w1.setCell ⟨br, 6, none⟩ (.int .i64 (n1 : Nat))) _ _ _ ∧ _) at H2
  skip
  generalize (w1.setCell ⟨br, 6, none⟩ (.int .i64 (n1 : Nat))) = w2 at *
  have k6 := H2.out.2.2.2.1.bk.cell (i := 6) rfl
  have HG := Lib.hid (show w2.rangeAt b1 0 [.int .i64 k, .int .i64 op, .int .i64 32, .int .i64 0, .int .i64 0, .bool false, .int .i64 vw, .slice vp vn vc, .slice ap an ac] from fun j u hj => by rw [Nat.zero_add]; exact H2.out.1.cell hj)
  have HT : Hid (w2.there b2 0 9) := Lib.hid (fun j hj => by rw [Nat.zero_add]; exact ⟨by rw [H2.out.2.1.cell (List.getElem?_eq_getElem hj)]; rfl, H2.out.2.1.frz j⟩)
  go_wp2_with ((first | (refine wpList_load_mid rfl 42 _ rfl b1 0 rfl [.int .i64 k, .int .i64 op, .int .i64 32, .int .i64 0, .int .i64 0, .bool false, .int .i64 vw, .slice vp vn vc, .slice ap an ac] _ HG.out Tryz.underlying42 rfl sizeTE ?_) | (refine wpList_store_mid rfl 42 _ _ rfl b2 0 #[.int .i64 k, .int .i64 op, .int .i64 32, .int .i64 0, .int .i64 0, .bool false, .int .i64 vw, .slice vp vn vc, .slice ap an ac] rfl rfl HT.out sizeTE (by kernel_rfl) ?_)))
  have hk9 := H2.out.2.1.put [.int .i64 k, .int .i64 op, .int .i64 32, .int .i64 0, .int .i64 0, .bool false, .int .i64 vw, .slice vp vn vc, .slice ap an ac] rfl
  exact bodyPost_ret (v := .agg #[.int .i64 k, .int .i64 op, .int .i64 32, .int .i64 0, .int .i64 0, .bool false, .int .i64 vw, .slice vp vn vc, .slice ap an ac]) (results_cell_row rfl _ _ b2 _ _ _ _ rfl hk9 Tryz.underlying42 rfl sizeTE) rfl ⟨rfl, RSt.puts H2.out.2.2.2.2 (by have := H.out.2.2.2.2; have := HB.out; omega) _ _ H2.out.2.2.2.1, Upd.puts (B := b0) (by have := HB.out; omega) _ _ HB.out.1 H2.out.2.2.1⟩
end Go.Proofs.YtkoggfahjlnecaaGreatDoor
