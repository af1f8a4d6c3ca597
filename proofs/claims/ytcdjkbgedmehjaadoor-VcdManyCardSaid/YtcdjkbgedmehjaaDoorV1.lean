import Derived.Test.YtcdjkbgedmehjaaDoorM2
namespace Go.Proofs.YtcdjkbgedmehjaaDoor
set_option linter.unusedVariables false
open Go.RowKit Go.Sort

/-! # the reader: the next word -/
theorem Rdr.tokAt {base b : Nat} {w : World} {S : RdS} {V : Key → Value} (h : Rdr base b w S V) {bt ot n c k : Nat} (hV : V .tok = .slice (some ⟨bt, ot, none⟩) n c) {t : Bs × Nat} (ht : S.toks[k]? = some t) :
    w.cell? ⟨bt, ot + k * 2, none⟩ = some (.string (bstr t.1)) ∧ w.cell? ⟨bt, ot + k * 2 + 1, none⟩ = some (.int .i64 t.2) := by
  obtain ⟨p, c', hV', hro⟩ := h.toks
  rw [hV] at hV'
  cases hV'
  exact ⟨hro.cell (tokCells_at _ _ _ ht).1, hro.cell (tokCells_at _ _ _ ht).2⟩
set_option maxRecDepth 100000 in
set_option maxHeartbeats 4000000 in
theorem next_any {base b : Nat} {w : World} {S : RdS} {V : Key → Value} (h : Rdr base b w S V) {t : Bs × Nat} (ht : S.toks[S.pos]? = some t) (hN : (S.toks.length : Int) ≤ 3000000) :
    Calls Tryd.prog 46 #[.pointer (some ⟨b, 0, none⟩)] w fun e w' => e = .returned (.agg #[.string (bstr t.1), .int .i64 t.2]) ∧ Rdr base b w' { S with pos := S.pos + 1 } V ∧ Only (fun k => k = b) w w' := by
  obtain ⟨p, c, hV, hro⟩ := h.toks
  have hp : S.pos < S.toks.length := (List.getElem?_eq_some_iff.1 ht).1
  obtain ⟨bt, ot, rfl⟩ := hro.sl (tokCells_at _ _ _ ht).1
  have k0 := hro.cell (tokCells_at _ _ _ ht).1
  have k1 := hro.cell (tokCells_at _ _ _ ht).2
  have c0 := h.cell (i := 0) rfl
  have c1 := h.cell (i := 1) rfl
  have c8 := h.cell (i := 8) rfl
  rw [hV] at c0
  have HT := Lib.hid (And.intro hV ht)
  obtain ⟨n, hn⟩ : ∃ n, S.toks.length = n := ⟨_, rfl⟩
  obtain ⟨k, hk⟩ : ∃ k, S.pos = k := ⟨_, rfl⟩
  rw [hn] at c0 hp hN
  rw [hk] at c1 k0 k1 hp HT ⊢
  rw [hn] at HT
  obtain ⟨x, y⟩ := t
  simp only at k0 k1 ⊢
  generalize hX : bstr x = X at k0 ⊢
  have HX := Lib.hid hX
  have hki : (k : Int) < n := by omega
  have hk0 : (0 : Int) ≤ k := by omega
  have hw1 : IntKind.i64.wrap ((k : Int) + 1) = (k : Int) + 1 := i64_of (by omega)
  have hw2 : IntKind.i64.wrap (((k : Int) + 1) - 1) = (k : Int) := (i64_of (by omega)).trans (by omega)
  have H := Lib.hid h
  clear h ht hro hV hn hk hp hX
  go_enter Tryd.func46, Tryd.ntmps46
  go_wp2_with fail
  have hb0 := Below.new w (.cells #[.string ⟨#[]⟩, .int .i64 0] 79)
  have hk0 := Blk.new (w := w) 79 [.string ⟨#[]⟩, .int .i64 0]
  have HR0 := Lib.hid (And.intro (H.out.lim.below hb0) (And.intro hk0 (And.intro (Only.of (F := fun k => k = b) hb0) (And.intro H.out.mem.lt hb0.size))))
  have c0' := hb0.cell (World.block_lt_of_cell? _ _ c0) |>.trans c0
  have c1' := hb0.cell (World.block_lt_of_cell? _ _ c1) |>.trans c1
  have c8' := hb0.cell (World.block_lt_of_cell? _ _ c8) |>.trans c8
  have k0' := hb0.cell (World.block_lt_of_cell? _ _ k0) |>.trans k0
  have k1' := hb0.cell (World.block_lt_of_cell? _ _ k1) |>.trans k1
  have f1' := (H.out.below hb0).blk.frz 1
  have f0 := hk0.frz 0
  have f2 := hk0.frz 1
  clear c0 c1 c8 k0 k1 hb0 hk0 H
  generalize w.alloc (.cells #[.string ⟨#[]⟩, .int .i64 0] 79) = W at *
  obtain ⟨R, hR⟩ : ∃ R, w.heap.size = R := ⟨_, rfl⟩
  have HRw := Lib.hid (Nat.le_of_eq hR)
  rw [hR] at HR0 ⊢
  clear hR
  go_quiet (fail)
  go_wp2_with fail
  have h2 := (HR0.out.1.below (below_drewN nq)).at (k + 1)
  have hb2 := (HR0.out.2.2.1.below (below_drewN (B := W.heap.size) nq) (Nat.le_trans HRw.out HR0.out.2.2.2.2)).set (p := ⟨b, 1, none⟩) rfl (.int .i64 ((k + 1 : Nat) : Int))
  have hkR := (HR0.out.2.1.next (below_drewN nq)).other (a := ⟨b, 1, none⟩) (.int .i64 ((k + 1 : Nat) : Int)) (Ne.symm (Nat.ne_of_lt HR0.out.2.2.2.1))
  have H2 := Lib.hid (And.intro h2 (And.intro hb2 (And.intro hkR HRw.out)))
  clear h2 hb2 hkR HR0 c0' c1' c8' k0' k1' f1' f0 f2
  have hcast : ((k : Int) + 1) = ((k + 1 : Nat) : Int) := rfl
  rw [hcast] at hw1 hw2 ⊢
  clear hcast
  generalize (W.drewN nq).setCell ⟨b, 1, none⟩ (.int .i64 ((k + 1 : Nat) : Int)) = W2 at *
  have c0 := H2.out.1.r.cell (i := 0) rfl
  have c1 := H2.out.1.r.cell (i := 1) rfl
  rw [HT.out.1] at c0
  have k0 := (H2.out.1.r.tokAt HT.out.1 HT.out.2).1
  have k1 := (H2.out.1.r.tokAt HT.out.1 HT.out.2).2
  simp only [HX.out] at k0 k1
  have f0 := H2.out.2.2.1.frz 0
  have f1 := H2.out.2.2.1.frz 1
  have d0 := H2.out.2.2.1.cell (i := 0) rfl
  have d1 := H2.out.2.2.1.cell (i := 1) rfl
  simp only at c1
  have H3 := Lib.hid (And.intro (H2.out.1.below ((Below.refl _ _).drew)) (And.intro (H2.out.2.1.below ((Below.refl W2.heap.size W2).drew) H2.out.2.1.size) (And.intro (H2.out.2.2.1.next ((Below.refl _ _).drew)) H2.out.2.2.2)))
  generalize ((k + 1 : Nat) : Int) = z at hw1 hw2 c1 ⊢
  refine wp_region_still_tail 11 (by kernel_rfl) (by kernel_rfl) ?_
  simp only [List.take_succ_cons, List.take_zero, List.drop_succ_cons, List.drop_zero]
  change wpStill _ _ W2.drew (fun a' => wpList _ _ _ _ a' W2.drew) _ _
  have c0' : W2.drew.cell? _ = _ := c0
  have c1' : W2.drew.cell? _ = _ := c1
  have k0' : W2.drew.cell? _ = _ := k0
  have k1' : W2.drew.cell? _ = _ := k1
  have f0' : W2.drew.frozen? _ = _ := f0
  have f1' : W2.drew.frozen? _ = _ := f1
  have d0' : W2.drew.cell? _ = _ := d0
  have d1' : W2.drew.cell? _ = _ := d1
  clear c0 c1 k0 k1 f0 f1 d0 d1 H2
  generalize W2.drew = W3 at *
  repeat still_step
  try refine wpStill_nil ?_
  go_wp2_with fail
  have hB3 := ((Below.refl R W3).setCell (show R ≤ (⟨R, 0, none⟩ : Addr).block from Nat.le_refl _) (.string X)).setCell (show R ≤ (⟨R, 1, none⟩ : Addr).block from Nat.le_refl _) (.int .i64 y)
  have hk3 := (H3.out.2.2.1.set 0 (.string X)).set 1 (.int .i64 y)
  have e0 := hk3.cell (i := 0) rfl
  have e1 := hk3.cell (i := 1) rfl
  have hend := (H3.out.1.below hB3).r
  have hbe := H3.out.2.1.below hB3 H3.out.2.2.2
  refine bodyPost_ret (v := .agg #[.string X, .int .i64 y]) ?_ rfl ⟨rfl, hend, hbe⟩
  simp [results, Tryd.results46, go_sem, e0, e1]
end Go.Proofs.YtcdjkbgedmehjaaDoor
