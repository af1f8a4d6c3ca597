import Derived.Test.YtkoggfahjlnecaaGreatDoorC12
namespace Go.Proofs.YtkoggfahjlnecaaGreatDoor
set_option linter.unusedVariables false
open Go.RowKit Go.Sort

/-! # typed.Scope.Const -/
def ScR (w : World) (n : Int) (e : Ending) (w' : World) : Prop := ∃ p c ep ec, e = .returned (.agg #[.slice p 1 c, .slice ep 1 ec]) ∧ ROA (fun k => w.heap.size ≤ k) w' (.slice p 1 c) 19 1 (thC n) ∧ ROA (fun k => w.heap.size ≤ k) w' (.slice ep 1 ec) 2 1 [.string ⟨#[80]⟩, .int .i64 n] ∧ Below w.heap.size w w'
set_option maxRecDepth 100000 in
set_option maxHeartbeats 4000000 in
theorem tconst_any {w : World} (n : Int) : Calls Tryz.prog 8 #[.agg #[.slice none 0 0, .slice none 0 0], .string ⟨#[80]⟩, .int .i64 n] w (ScR w n) := by
  have HWi := Lib.hid (fun w : World => twith_any (w := w) n)
  have HEn := Lib.hid (fun w : World => kwith_any (w := w) n)
  have g1 := Below.new w (.cells #[.slice none 0 0, .slice none 0 0] 47)
  have g2 := Below.new (w.alloc (.cells #[.slice none 0 0, .slice none 0 0] 47)) (.cells #[.slice none 0 0, .slice none 0 0] 47)
  have H := Lib.hid (And.intro ((Blk.new (w := w) 47 [.slice none 0 0, .slice none 0 0]).next g2) (And.intro (Blk.new (w := (w.alloc (.cells #[.slice none 0 0, .slice none 0 0] 47))) 47 [.slice none 0 0, .slice none 0 0]) (Below.next g1 g2)))
  simp only [World.size_alloc] at H
  clear g1 g2
  go_enter Tryz.func8, Tryz.ntmps8
  go_upto_region 1 with fail
  change Hid (Blk ((w.alloc (.cells #[.slice none 0 0, .slice none 0 0] 47)).alloc (.cells #[.slice none 0 0, .slice none 0 0] 47)) _ _ _ ∧ _) at H
  generalize ((w.alloc (.cells #[.slice none 0 0, .slice none 0 0] 47)).alloc (.cells #[.slice none 0 0, .slice none 0 0] 47)) = w1 at *
  obtain ⟨b0, hb0⟩ : ∃ b, w.heap.size = b := ⟨_, rfl⟩
  obtain ⟨b1, hb1⟩ : ∃ b, b0 + 1 = b := ⟨_, rfl⟩
  rw [hb0] at H ⊢
  rw [hb1] at H ⊢
  have HB := Lib.hid (And.intro hb0 hb1)
  clear hb0 hb1
  have v0 := H.out.1.cell (i := 0) rfl
  have v1 := H.out.1.cell (i := 1) rfl
  go_wp2_with fail
  refine (HWi.out _).mono ?_; rintro e w2 ⟨p, c, rfl, hr, hb2⟩
  clear v0 v1 HWi
  have hs1 : b0 ≤ w1.heap.size := Nat.le_of_lt H.out.1.lt
  have g3 := Below.new w2 (.cells #[.slice p 1 c, .slice none 0 0] 47)
  have g23 := Below.next hb2 g3
  have hk3 := Blk.new (w := w2) 47 [.slice p 1 c, .slice none 0 0]
  have H3 := Lib.hid (And.intro (H.out.1.next g23) (And.intro (H.out.2.1.next g23) (And.intro hk3 (And.intro (Below.trans H.out.2.2 (g23.mono hs1)) (And.intro ((hr.turn (A' := fun k => b1 < k ∧ k < w2.heap.size) fun k hk hl => ⟨⟨Nat.lt_of_lt_of_le H.out.2.1.lt hk, hl⟩, g3.block k hl⟩) : ROA (fun k => b1 < k ∧ k < w2.heap.size) (w2.alloc (.cells #[.slice p 1 c, .slice none 0 0] 47)) (.slice p 1 c) 19 1 (thC n)) (show b1 < w2.heap.size from Nat.lt_of_lt_of_le H.out.2.1.lt hb2.size))))))
  clear hr hb2 hs1 g3 g23 hk3 H
  go_upto_region 2 with fail
  change Hid (Blk (w2.alloc (.cells #[.slice p 1 c, .slice none 0 0] 47)) _ _ _ ∧ _) at H3
  generalize (w2.alloc (.cells #[.slice p 1 c, .slice none 0 0] 47)) = w3 at *
  obtain ⟨b3, hb3⟩ : ∃ b, w2.heap.size = b := ⟨_, rfl⟩
  rw [hb3] at H3 ⊢
  clear hb3
  have v0 := H3.out.1.cell (i := 0) rfl
  have v1 := H3.out.1.cell (i := 1) rfl
  go_wp2_with fail
  refine (HEn.out _).mono ?_; rintro e w4 ⟨ep, ec, rfl, hre, hb4⟩
  clear v0 v1 HEn
  have hs3 : b0 ≤ w3.heap.size := Nat.le_of_lt H3.out.1.lt
  have hq := H3.out.2.2.1.next hb4
  have hk1 := H3.out.2.1.next hb4
  have hth := H3.out.2.2.2.2.1.turn (A' := fun k => b1 < k ∧ k < b3) (w' := w4) fun k hk hl => ⟨hk, hb4.block k hl⟩
  have hen := hre.turn (A' := fun k => b3 < k) (w' := w4) fun k hk hl => ⟨Nat.lt_of_lt_of_le H3.out.2.2.1.lt hk, rfl⟩
  have H4 := Lib.hid (And.intro hq (And.intro hk1 (And.intro hth (And.intro hen (And.intro (Below.trans H3.out.2.2.2.1 (hb4.mono hs3)) H3.out.2.2.2.2.2)))))
  clear hq hk1 hth hen hb4 hs3 hre H3
  have r0 := H4.out.1.cell (i := 0) rfl
  have r1 := H4.out.1.cell (i := 1) rfl
  have f1 := H4.out.1.frz 1
  go_upto_region 3 with fail
  have hb13 : b1 ≠ b3 := Nat.ne_of_lt H4.out.2.2.2.2.2
  have hq5 := H4.out.1.set 1 (.slice ep 1 ec)
  have hk5 := H4.out.2.1.other (a := ⟨b3, 1, none⟩) (.slice ep 1 ec) hb13
  have hth5 := H4.out.2.2.1.turn (A' := fun k => b1 < k) (w' := w4.setCell ⟨b3, 1, none⟩ (.slice ep 1 ec)) fun k hk hl => ⟨hk.1, Below.heap_setCell _ _ _ _ (fun e => Nat.ne_of_lt hk.2 e)⟩
  have hen5 := H4.out.2.2.2.1.turn (A' := fun k => b1 < k) (w' := w4.setCell ⟨b3, 1, none⟩ (.slice ep 1 ec)) fun k hk hl => ⟨Nat.lt_trans H4.out.2.2.2.2.2 hk, Below.heap_setCell _ _ _ _ (fun e => Nat.ne_of_gt hk e)⟩
  have hb5 := Below.setCell H4.out.2.2.2.2.1 (p := ⟨b3, 1, none⟩) (by show b0 ≤ b3; have := HB.out.2; have := H4.out.2.2.2.2.2; omega) (.slice ep 1 ec)
  have H5 := Lib.hid (And.intro hq5 (And.intro hk5 (And.intro hth5 (And.intro hen5 hb5))))
  clear r0 r1 f1 hq5 hk5 hth5 hen5 hb5 hb13
  generalize w4.setCell ⟨b3, 1, none⟩ (.slice ep 1 ec) = w5 at *
  have r0 := H5.out.1.cell (i := 0) rfl
  have r1 := H5.out.1.cell (i := 1) rfl
  have u0 := H5.out.2.1.cell (i := 0) rfl
  have u1 := H5.out.2.1.cell (i := 1) rfl
  have f0 := H5.out.2.1.frz 0
  have f1 := H5.out.2.1.frz 1
  go_wp2_with fail
  have hk6 := (H5.out.2.1.set 0 (.slice p 1 c)).set 1 (.slice ep 1 ec)
  have hne : ∀ k, b1 < k → ((w5.setCell ⟨b1, 0, none⟩ (.slice p 1 c)).setCell ⟨b1, 1, none⟩ (.slice ep 1 ec)).heap[k]? = w5.heap[k]? := fun k hk => (Below.heap_setCell _ _ _ _ (fun e => Nat.ne_of_gt hk e)).trans (Below.heap_setCell _ _ _ _ (fun e => Nat.ne_of_gt hk e))
  have hth6 := H5.out.2.2.1.turn (A' := fun k => b0 ≤ k) fun k hk hl => ⟨by have := HB.out.2; omega, hne k hk⟩
  have hen6 := H5.out.2.2.2.1.turn (A' := fun k => b0 ≤ k) fun k hk hl => ⟨by have := HB.out.2; omega, hne k hk⟩
  have hb6 := Below.setCell (Below.setCell H5.out.2.2.2.2 (p := ⟨b1, 0, none⟩) (by show b0 ≤ b1; have := HB.out.2; omega) (.slice p 1 c)) (p := ⟨b1, 1, none⟩) (by show b0 ≤ b1; have := HB.out.2; omega) (.slice ep 1 ec)
  clear r0 r1 u0 u1 f0 f1 hne
  generalize ((w5.setCell ⟨b1, 0, none⟩ (.slice p 1 c)).setCell ⟨b1, 1, none⟩ (.slice ep 1 ec)) = w6 at *
  have e0 := hk6.cell (i := 0) rfl
  have e1 := hk6.cell (i := 1) rfl
  exact bodyPost_ret (v := .agg #[.slice p 1 c, .slice ep 1 ec]) (by simp [results, Tryz.results8, go_sem, e0, e1]) rfl ⟨_, _, _, _, rfl, by rw [HB.out.1]; exact hth6, by rw [HB.out.1]; exact hen6, by rw [HB.out.1]; exact hb6⟩
end Go.Proofs.YtkoggfahjlnecaaGreatDoor
