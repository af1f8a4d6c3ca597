import Derived.Test.YtkoggfahjlnecaaGreatDoorC11
import Derived.Test.YtkoggfahjlnecaaGreatDoorVK4
import Derived.Test.YtkoggfahjlnecaaGreatDoorC12A
namespace Go.Proofs.YtkoggfahjlnecaaGreatDoor
set_option linter.unusedVariables false
open Go.RowKit Go.Sort

/-! # typed.Scope: a name that is a number -/
abbrev thC (n : Int) : List Value := [.string ⟨#[80]⟩, .int .i64 1, .int .i64 n, .string ⟨#[]⟩, .int .i64 0, .bool false, .int .i64 0, .slice none 0 0, .int .i64 0, .bool false, .int .i64 0, .int .i64 0, .int .i64 0, .int .i64 0, .int .i64 0, .bool false, .int .i64 0, .slice none 0 0, .slice none 0 0]
theorem infoTh : (Tryz.prog.info? 81).map (fun i => (i.zero, i.size, i.bytes)) = some (some (.agg #[.string ⟨#[]⟩, .int .i64 0, .int .i64 0, .string ⟨#[]⟩, .int .i64 0, .bool false, .int .i64 0, .slice none 0 0, .int .i64 0, .bool false, .int .i64 0, .int .i64 0, .int .i64 0, .int .i64 0, .int .i64 0, .bool false, .int .i64 0, .slice none 0 0, .slice none 0 0]), 19, 216) := by kernel_rfl
theorem TTh : SlTy Tryz.prog 45 81 19 216 (.agg #[.string ⟨#[]⟩, .int .i64 0, .int .i64 0, .string ⟨#[]⟩, .int .i64 0, .bool false, .int .i64 0, .slice none 0 0, .int .i64 0, .bool false, .int .i64 0, .int .i64 0, .int .i64 0, .int .i64 0, .int .i64 0, .bool false, .int .i64 0, .slice none 0 0, .slice none 0 0]) := SlTy.of Tryz.underlying45 infoTh rfl (by decide)
theorem sizeTh : (Tryz.prog.info? 81).map (·.size) = some 19 := by kernel_rfl
set_option maxRecDepth 100000 in
theorem tclone_nil {w : World} : Calls Tryz.prog 41 #[.slice none 0 0] w fun e w' => e = .returned (.slice none 0 0) ∧ w' = w := by
  have hnil := fun w' => Lib.run_eql_slice_nil (P := Tryz.prog) w' 45 81 none 0 0 0 0 Tryz.underlying45
  go_enter Tryz.func41, Tryz.ntmps41
  go_wp2_with fail
  go_ret
  exact ⟨rfl, rfl⟩
set_option maxRecDepth 100000 in
theorem tindex_nil {w : World} (f : Value) : Calls Tryz.prog 75 #[.slice none 0 0, f] w fun e w' => e = .returned (.int .i64 (-1)) ∧ Below w.heap.size w w' := by
  go_enter Tryz.func75, Tryz.ntmps75
  go_wp2_with fail
  go_loopw [8] (fun iv wr => iv = .int .i64 0 ∧ Below w.heap.size w wr) (fun _ _ => 0)
  case atStart => exact ⟨rfl, Below.refl _ _⟩
  case round =>
    obtain ⟨rfl, hb⟩ := hrel
    go_wp2_with fail
    go_ret
    exact ⟨rfl, hb⟩
set_option maxRecDepth 100000 in
theorem tdelete_nil {w : World} (f : Value) : Calls Tryz.prog 40 #[.slice none 0 0, f] w fun e w' => e = .returned (.slice none 0 0) ∧ Below w.heap.size w w' := by
  have HI := Lib.hid (fun w : World => tindex_nil (w := w) f)
  go_enter Tryz.func40, Tryz.ntmps40
  go_wp2_with fail
  refine (HI.out _).mono ?_; rintro e w2 ⟨rfl, hb2⟩
  have HF := Lib.hid hb2
  clear hb2
  go_wp2_with fail
  go_ret
  exact ⟨rfl, HF.out⟩
set_option maxRecDepth 100000 in
set_option maxHeartbeats 4000000 in
theorem twith_any {w : World} (n : Int) : Calls Tryz.prog 20 #[.agg #[.slice none 0 0, .slice none 0 0], .agg #[.string ⟨#[80]⟩, .int .i64 1, .int .i64 n, .string ⟨#[]⟩, .int .i64 0, .bool false, .int .i64 0, .slice none 0 0, .int .i64 0, .bool false, .int .i64 0, .int .i64 0, .int .i64 0, .int .i64 0, .int .i64 0, .bool false, .int .i64 0, .slice none 0 0, .slice none 0 0]] w fun e w' => ∃ p c, e = .returned (.agg #[.slice p 1 c, .slice none 0 0]) ∧ ROA (fun k => w.heap.size ≤ k) w' (.slice p 1 c) 19 1 (thC n) ∧ Below w.heap.size w w' := by
  have g1 := Below.new w (.cells #[.slice none 0 0, .slice none 0 0] 47)
  have g2 := Below.new (w.alloc (.cells #[.slice none 0 0, .slice none 0 0] 47)) (.cells #[.string ⟨#[80]⟩, .int .i64 1, .int .i64 n, .string ⟨#[]⟩, .int .i64 0, .bool false, .int .i64 0, .slice none 0 0, .int .i64 0, .bool false, .int .i64 0, .int .i64 0, .int .i64 0, .int .i64 0, .int .i64 0, .bool false, .int .i64 0, .slice none 0 0, .slice none 0 0] 81)
  have g3 := Below.new ((w.alloc (.cells #[.slice none 0 0, .slice none 0 0] 47)).alloc (.cells #[.string ⟨#[80]⟩, .int .i64 1, .int .i64 n, .string ⟨#[]⟩, .int .i64 0, .bool false, .int .i64 0, .slice none 0 0, .int .i64 0, .bool false, .int .i64 0, .int .i64 0, .int .i64 0, .int .i64 0, .int .i64 0, .bool false, .int .i64 0, .slice none 0 0, .slice none 0 0] 81)) (.cells #[.slice none 0 0, .slice none 0 0] 47)
  have H := Lib.hid (And.intro ((Blk.new (w := w) 47 [.slice none 0 0, .slice none 0 0]).next (Below.next g2 g3)) (And.intro ((Blk.new (w := (w.alloc (.cells #[.slice none 0 0, .slice none 0 0] 47))) 81 [.string ⟨#[80]⟩, .int .i64 1, .int .i64 n, .string ⟨#[]⟩, .int .i64 0, .bool false, .int .i64 0, .slice none 0 0, .int .i64 0, .bool false, .int .i64 0, .int .i64 0, .int .i64 0, .int .i64 0, .int .i64 0, .bool false, .int .i64 0, .slice none 0 0, .slice none 0 0]).next g3) (And.intro (Blk.new (w := ((w.alloc (.cells #[.slice none 0 0, .slice none 0 0] 47)).alloc (.cells #[.string ⟨#[80]⟩, .int .i64 1, .int .i64 n, .string ⟨#[]⟩, .int .i64 0, .bool false, .int .i64 0, .slice none 0 0, .int .i64 0, .bool false, .int .i64 0, .int .i64 0, .int .i64 0, .int .i64 0, .int .i64 0, .bool false, .int .i64 0, .slice none 0 0, .slice none 0 0] 81))) 47 [.slice none 0 0, .slice none 0 0]) (Below.next (Below.next g1 g2) g3))))
  simp only [World.size_alloc] at H
  clear g1 g2 g3
  have HC := Lib.hid (fun w : World => tclone_nil (w := w))
  have HD := Lib.hid (fun (w : World) (f : Value) => tdelete_nil (w := w) f)
  go_enter Tryz.func20, Tryz.ntmps20
  go_upto_region 1 with fail
  change Hid (Blk (((w.alloc (.cells #[.slice none 0 0, .slice none 0 0] 47)).alloc (.cells #[.string ⟨#[80]⟩, .int .i64 1, .int .i64 n, .string ⟨#[]⟩, .int .i64 0, .bool false, .int .i64 0, .slice none 0 0, .int .i64 0, .bool false, .int .i64 0, .int .i64 0, .int .i64 0, .int .i64 0, .int .i64 0, .bool false, .int .i64 0, .slice none 0 0, .slice none 0 0] 81)).alloc (.cells #[.slice none 0 0, .slice none 0 0] 47)) _ _ _ ∧ _) at H
  generalize (((w.alloc (.cells #[.slice none 0 0, .slice none 0 0] 47)).alloc (.cells #[.string ⟨#[80]⟩, .int .i64 1, .int .i64 n, .string ⟨#[]⟩, .int .i64 0, .bool false, .int .i64 0, .slice none 0 0, .int .i64 0, .bool false, .int .i64 0, .int .i64 0, .int .i64 0, .int .i64 0, .int .i64 0, .bool false, .int .i64 0, .slice none 0 0, .slice none 0 0] 81)).alloc (.cells #[.slice none 0 0, .slice none 0 0] 47)) = w1 at *
  obtain ⟨b0, hb0⟩ : ∃ b, w.heap.size = b := ⟨_, rfl⟩
  obtain ⟨b3, hb3⟩ : ∃ b, b0 + 1 = b := ⟨_, rfl⟩
  obtain ⟨b4, hb4⟩ : ∃ b, b3 + 1 = b := ⟨_, rfl⟩
  rw [hb0] at H ⊢
  rw [hb3] at H ⊢
  rw [hb4] at H ⊢
  have HB := Lib.hid (And.intro hb0 (And.intro hb3 hb4))
  clear hb0 hb3 hb4
  have v0 := H.out.1.cell (i := 0) rfl
  go_wp2_with fail
  refine (HC.out _).mono ?_; rintro e w2 ⟨rfl, rfl⟩
  go_wp2_with fail
  refine (HD.out _ _).mono ?_; rintro e w3 ⟨rfl, hbd⟩
  have hsz1 : b0 ≤ w2.heap.size := by have := H.out.1.lt; omega
  have H3 := Lib.hid (And.intro (H.out.1.next hbd) (And.intro (H.out.2.1.next hbd) (And.intro (H.out.2.2.1.next hbd) (Below.trans H.out.2.2.2 (hbd.mono hsz1)))))
  clear v0 hbd hsz1 HC HD H
  go_upto_region 2 with fail
  have HKB : Hid (∀ W : World, Blk W b0 47 [.slice none 0 0, .slice none 0 0] → Blk W b3 81 (thC n) → (fun W => Blk W b0 47 [.slice none 0 0, .slice none 0 0] ∧ Blk W b3 81 (thC n)) W) := Lib.hid fun W h1 h2 => ⟨h1, h2⟩
  refine wp_region_held_drew (S := (fun W => Blk W b0 47 [.slice none 0 0, .slice none 0 0] ∧ Blk W b3 81 (thC n))) (by kernel_rfl) ?_ (fun hHeld => ?_)
  · exact HKB.out _ H3.out.1.drew H3.out.2.1.drew
  refine held_take (i := 0) (v := ?_) rfl (by kernel_rfl) (by kernel_rfl) (by kernel_rfl) (fun _ _ _ h => h) (Or.inl ⟨by rfl, ?_⟩) hHeld ?_
  rotate_left
  · intro w hSw; clear hSw; go_simp; (try with_reducible rfl)
  (try simp only [Act.put, List.setIfInBounds_toArray, List.set_cons_zero, List.set_cons_succ])
  have hY : Hid (∀ W : World, (fun W => Blk W b0 47 [.slice none 0 0, .slice none 0 0] ∧ Blk W b3 81 (thC n)) W → W.rangeAt b3 0 (thC n)) := Lib.hid fun W h k u hu => by rw [Nat.zero_add]; exact h.2.cell hu
  refine held_take (i := 1) (v := .agg #[.string ⟨#[80]⟩, .int .i64 1, .int .i64 n, .string ⟨#[]⟩, .int .i64 0, .bool false, .int .i64 0, .slice none 0 0, .int .i64 0, .bool false, .int .i64 0, .int .i64 0, .int .i64 0, .int .i64 0, .int .i64 0, .bool false, .int .i64 0, .slice none 0 0, .slice none 0 0]) rfl (by kernel_rfl) (by kernel_rfl) (by kernel_rfl) (fun _ _ _ h => h) (yieldsIf_load_mid (by rfl) 81 _ rfl b3 0 rfl (thC n) _ hY.out Tryz.underlying81 rfl sizeTh) hHeld ?_
  (try simp only [Act.put, List.setIfInBounds_toArray, List.set_cons_zero, List.set_cons_succ])
  refine held_take (i := 4) (v := ?_) rfl (by kernel_rfl) (by kernel_rfl) (by kernel_rfl) (fun _ _ _ h => h) (Or.inl ⟨by rfl, ?_⟩) hHeld ?_
  rotate_left
  · intro w hSw; clear hSw; go_simp; (try with_reducible rfl)
  (try simp only [Act.put, List.setIfInBounds_toArray, List.set_cons_zero, List.set_cons_succ])
  refine held_take (i := 5) (v := ?_) rfl (by kernel_rfl) (by kernel_rfl) (by kernel_rfl) (fun _ _ _ h => h) (Or.inl ⟨by rfl, ?_⟩) hHeld ?_
  rotate_left
  · intro w hSw; have q1 := hSw.1.cell (i := 1) rfl; clear hSw; go_simp; (try with_reducible rfl)
  (try simp only [Act.put, List.setIfInBounds_toArray, List.set_cons_zero, List.set_cons_succ])
  have hn := Below.new w3 (.cells #[.string ⟨#[80]⟩, .int .i64 1, .int .i64 n, .string ⟨#[]⟩, .int .i64 0, .bool false, .int .i64 0, .slice none 0 0, .int .i64 0, .bool false, .int .i64 0, .int .i64 0, .int .i64 0, .int .i64 0, .int .i64 0, .bool false, .int .i64 0, .slice none 0 0, .slice none 0 0] 81)
  have hq1 := (H3.out.1.next hn).drew
  have hq2 := (H3.out.2.1.next hn).drew
  have hk4 := (H3.out.2.2.1.next hn).drew
  have hB2 := (Blk.new (w := w3) 81 [.string ⟨#[80]⟩, .int .i64 1, .int .i64 n, .string ⟨#[]⟩, .int .i64 0, .bool false, .int .i64 0, .slice none 0 0, .int .i64 0, .bool false, .int .i64 0, .int .i64 0, .int .i64 0, .int .i64 0, .int .i64 0, .bool false, .int .i64 0, .slice none 0 0, .slice none 0 0]).drew
  have hbx := (Below.trans H3.out.2.2.2 (hn.mono (by have h := H3.out.2.2.2.size; have := HB.out.1; omega))).drew
  refine wpAnyH_ready (rs := [2]) (by kernel_rfl) (by simp) ?_
  refine held_cons rfl (fun K hK => ?_) AllReadyH.nil
  go_simp
  refine hK.out _ _ ?_ (fun hHeld2 => ?_)
  · (try dsimp only)
    exact HKB.out _ hq1 hq2
  clear hK K hHeld hHeld2
  (try simp only [Act.put, List.setIfInBounds_toArray, List.set_cons_zero, List.set_cons_succ])
  change Blk (w3.alloc (.cells #[.string ⟨#[80]⟩, .int .i64 1, .int .i64 n, .string ⟨#[]⟩, .int .i64 0, .bool false, .int .i64 0, .slice none 0 0, .int .i64 0, .bool false, .int .i64 0, .int .i64 0, .int .i64 0, .int .i64 0, .int .i64 0, .bool false, .int .i64 0, .slice none 0 0, .slice none 0 0] 81)).drew _ _ _ at hq1
  change Blk (w3.alloc (.cells #[.string ⟨#[80]⟩, .int .i64 1, .int .i64 n, .string ⟨#[]⟩, .int .i64 0, .bool false, .int .i64 0, .slice none 0 0, .int .i64 0, .bool false, .int .i64 0, .int .i64 0, .int .i64 0, .int .i64 0, .int .i64 0, .bool false, .int .i64 0, .slice none 0 0, .slice none 0 0] 81)).drew _ _ _ at hq2
  change Blk (w3.alloc (.cells #[.string ⟨#[80]⟩, .int .i64 1, .int .i64 n, .string ⟨#[]⟩, .int .i64 0, .bool false, .int .i64 0, .slice none 0 0, .int .i64 0, .bool false, .int .i64 0, .int .i64 0, .int .i64 0, .int .i64 0, .int .i64 0, .bool false, .int .i64 0, .slice none 0 0, .slice none 0 0] 81)).drew _ _ _ at hk4
  change Blk (w3.alloc (.cells #[.string ⟨#[80]⟩, .int .i64 1, .int .i64 n, .string ⟨#[]⟩, .int .i64 0, .bool false, .int .i64 0, .slice none 0 0, .int .i64 0, .bool false, .int .i64 0, .int .i64 0, .int .i64 0, .int .i64 0, .int .i64 0, .bool false, .int .i64 0, .slice none 0 0, .slice none 0 0] 81)).drew _ _ _ at hB2
  change Below _ _ (w3.alloc (.cells #[.string ⟨#[80]⟩, .int .i64 1, .int .i64 n, .string ⟨#[]⟩, .int .i64 0, .bool false, .int .i64 0, .slice none 0 0, .int .i64 0, .bool false, .int .i64 0, .int .i64 0, .int .i64 0, .int .i64 0, .int .i64 0, .bool false, .int .i64 0, .slice none 0 0, .slice none 0 0] 81)).drew at hbx
  generalize (w3.alloc (.cells #[.string ⟨#[80]⟩, .int .i64 1, .int .i64 n, .string ⟨#[]⟩, .int .i64 0, .bool false, .int .i64 0, .slice none 0 0, .int .i64 0, .bool false, .int .i64 0, .int .i64 0, .int .i64 0, .int .i64 0, .int .i64 0, .bool false, .int .i64 0, .slice none 0 0, .slice none 0 0] 81)).drew = wx at *
  obtain ⟨L2, hL2⟩ : ∃ b, w3.heap.size = b := ⟨_, rfl⟩
  rw [hL2] at hB2 ⊢
  clear hL2
  refine wpAnyH_ready (rs := [3]) (by kernel_rfl) (by simp) ?_
  refine held_cons rfl (fun K hK => ?_) AllReadyH.nil
  have hr2 : RO wx (.slice (some ⟨L2, 0, none⟩) 1 1) 19 1 [.string ⟨#[80]⟩, .int .i64 1, .int .i64 n, .string ⟨#[]⟩, .int .i64 0, .bool false, .int .i64 0, .slice none 0 0, .int .i64 0, .bool false, .int .i64 0, .int .i64 0, .int .i64 0, .int .i64 0, .int .i64 0, .bool false, .int .i64 0, .slice none 0 0, .slice none 0 0] := ⟨rfl, _, _, rfl, fun j u hj => ⟨_, 0, rfl, by rw [Nat.zero_add]; exact hB2.cell hj⟩⟩
  have hsz := hbx.size
  refine step_appR rfl _ _ 45 rfl TTh b0 (.slice none 0 0) 0 [] rfl (World.ownsRow_nil _ _ _ _) (.slice (some ⟨L2, 0, none⟩) 1 1) 1 [.string ⟨#[80]⟩, .int .i64 1, .int .i64 n, .string ⟨#[]⟩, .int .i64 0, .bool false, .int .i64 0, .slice none 0 0, .int .i64 0, .bool false, .int .i64 0, .int .i64 0, .int .i64 0, .int .i64 0, .int .i64 0, .bool false, .int .i64 0, .slice none 0 0, .slice none 0 0] rfl hr2 (by simp [Value.oneCell']) (by omega) (by omega) (by have := hbx.size; have := HB.out.1; omega) ?_
  intro v8 w8 happ
  have hq18 := appnil_blk happ hq1
  have hq28 := appnil_blk happ hq2
  have hbl8 := happ.below hbx (by have := HB.out.1; omega) (fun j hj => by cases hj)
  have hkb := appnil_blk happ hk4
  have hne8 := appnil_ne happ hk4.lt
  obtain ⟨p8, c8, ev8⟩ := ownsRow_form happ.own
  subst ev8
  have H8 := Lib.hid (And.intro happ.own (And.intro hbl8 (And.intro hkb hne8)))
  have r0 := hkb.cell (i := 0) rfl
  have r1 := hkb.cell (i := 1) rfl
  have f0 := hkb.frz 0
  have f1 := hkb.frz 1
  have HQ := Lib.hid (And.intro (HKB.out _ hq18 hq28) (HKB.out _ ((hq18.other (a := ⟨b4, 0, none⟩) (.slice p8 1 c8) (by show b0 ≠ b4; have := HB.out; omega)).other (a := ⟨b4, 1, none⟩) (.slice none 0 0) (by show b0 ≠ b4; have := HB.out; omega)) ((hq28.other (a := ⟨b4, 0, none⟩) (.slice p8 1 c8) (by show b3 ≠ b4; have := HB.out; omega)).other (a := ⟨b4, 1, none⟩) (.slice none 0 0) (by show b3 ≠ b4; have := HB.out; omega))))
  clear happ hbl8 hkb hne8 hr2 hsz hbx hk4 hB2 H3 hq1 hq2 hq18 hq28
  refine hK.out _ _ ?_ (fun hHeld2 => ?_)
  · (try dsimp only)
    exact HQ.out.1
  clear hK K hHeld2
  (try simp only [Act.put, List.setIfInBounds_toArray, List.set_cons_zero, List.set_cons_succ])
  refine wpAnyH_ready (rs := [6]) (by kernel_rfl) (by simp) ?_
  refine held_cons rfl (fun K hK => ?_) AllReadyH.nil
  go_simp
  refine hK.out _ _ ?_ (fun hHeld2 => ?_)
  · (try dsimp only)
    exact HQ.out.1
  clear hK K hHeld2
  (try simp only [Act.put, List.setIfInBounds_toArray, List.set_cons_zero, List.set_cons_succ])
  refine wpAnyH_ready (rs := [7]) (by kernel_rfl) (by simp) ?_
  refine held_cons rfl (fun K hK => ?_) AllReadyH.nil
  go_simp
  refine hK.out _ _ ?_ (fun hHeld2 => ?_)
  · (try dsimp only)
    exact HQ.out.2
  clear hK K hHeld2
  (try simp only [Act.put, List.setIfInBounds_toArray, List.set_cons_zero, List.set_cons_succ])
  refine wpAnyH_done (by kernel_rfl) ?_ _
  have hk9 := (H8.out.2.2.1.set 0 (.slice p8 1 c8)).set 1 (.slice none 0 0)
  have hb9 := Below.setCell (Below.setCell H8.out.2.1 (p := ⟨b4, 0, none⟩) (by show b0 ≤ b4; have := HB.out.1; have := HB.out.2.1; have := HB.out.2.2; omega) (.slice p8 1 c8)) (p := ⟨b4, 1, none⟩) (by show b0 ≤ b4; have := HB.out.1; have := HB.out.2.1; have := HB.out.2.2; omega) (.slice none 0 0)
  have ho9 : ((w8.setCell ⟨b4, 0, none⟩ (.slice p8 1 c8)).setCell ⟨b4, 1, none⟩ (.slice none 0 0)).ownsRow b0 81 19 (.slice p8 1 c8) 1 (thC n) := ownsRow_keep H8.out.1 fun k hk => (Below.heap_setCell _ _ _ _ (fun e => H8.out.2.2.2 (by rw [hk, e]))).trans (Below.heap_setCell _ _ _ _ (fun e => H8.out.2.2.2 (by rw [hk, e])))
  clear r0 r1 f0 f1
  generalize ((w8.setCell ⟨b4, 0, none⟩ (.slice p8 1 c8)).setCell ⟨b4, 1, none⟩ (.slice none 0 0)) = w9 at *
  have e0 := hk9.cell (i := 0) rfl
  have e1 := hk9.cell (i := 1) rfl
  go_wp2_with fail
  exact bodyPost_ret (v := .agg #[.slice p8 1 c8, .slice none 0 0]) (by simp [results, Tryz.results20, go_sem, e0, e1]) rfl ⟨_, _, rfl, by rw [HB.out.1]; exact own_roa ho9, by rw [HB.out.1]; exact hb9⟩
end Go.Proofs.YtkoggfahjlnecaaGreatDoor
