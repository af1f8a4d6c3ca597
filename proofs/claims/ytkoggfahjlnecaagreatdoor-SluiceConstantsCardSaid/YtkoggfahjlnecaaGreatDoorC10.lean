import Derived.Test.YtkoggfahjlnecaaGreatDoorC9
namespace Go.Proofs.YtkoggfahjlnecaaGreatDoor
set_option linter.unusedVariables false
open Go.RowKit Go.Sort

/-! # konst.Eval -/
def KEvR (w : World) (o : Option Int) (e : Ending) (w' : World) : Prop :=
  (match o with
    | some n => e = .returned (.tuple #[.int .i64 n, .agg #[.int .i64 0, .int .i64 0, .int .i64 0], .int .i64 0])
    | none => e = .returned (.tuple #[.int .i64 0, .agg #[.int .i64 0, .int .i64 0, .int .i64 0], .int .i64 3])) ∧ Below w.heap.size w w'
set_option maxRecDepth 100000 in
set_option maxHeartbeats 4000000 in
theorem keval_any {w : World} {nm : Int} {ep : Option Addr} {ec : Nat} {e : KE} {cs : List Value} (hnm : fitI nm) (hwf : e.wf) (hx : EX (fun k => k < w.heap.size) w e cs) (hr : ROA (fun k => k < w.heap.size) w (.slice ep 1 ec) 2 1 [.string ⟨#[80]⟩, .int .i64 nm]) (hm : Max w) :
    Calls Tryz.prog 5 #[.agg cs.toArray, .agg #[.slice ep 1 ec]] w (KEvR w (evK nm e)) := by
  obtain ⟨k1, t1, p1, n1, c1, rfl⟩ := hx.form
  have g1 := Below.new w (.cells #[.int .i64 k1, .int .i64 0, .int .i64 0, .int .i64 0, .string t1, .slice p1 n1 c1] 27)
  have g2 := Below.new (w.alloc (.cells #[.int .i64 k1, .int .i64 0, .int .i64 0, .int .i64 0, .string t1, .slice p1 n1 c1] 27)) (.cells #[.slice ep 1 ec] 35)
  have g3 := Below.new ((w.alloc (.cells #[.int .i64 k1, .int .i64 0, .int .i64 0, .int .i64 0, .string t1, .slice p1 n1 c1] 27)).alloc (.cells #[.slice ep 1 ec] 35)) (.cells #[.int .i64 0, .int .i64 0, .int .i64 0] 24)
  have g4 := Below.new (((w.alloc (.cells #[.int .i64 k1, .int .i64 0, .int .i64 0, .int .i64 0, .string t1, .slice p1 n1 c1] 27)).alloc (.cells #[.slice ep 1 ec] 35)).alloc (.cells #[.int .i64 0, .int .i64 0, .int .i64 0] 24)) (.cells #[.slice ep 1 ec, .int .i64 0, .int .i64 0, .int .i64 0, .int .i64 0] 62)
  have g12 := Below.next g1 g2
  have g123 := Below.next g12 g3
  have nall := Below.next g123 g4
  have g234 := Below.next (Below.next g2 g3) g4
  have g34 := Below.next g3 g4
  have hk1 := (Blk.new (w := w) 27 [.int .i64 k1, .int .i64 0, .int .i64 0, .int .i64 0, .string t1, .slice p1 n1 c1]).next (Below.next g2 g3)
  have hk2 := (Blk.new (w := (w.alloc (.cells #[.int .i64 k1, .int .i64 0, .int .i64 0, .int .i64 0, .string t1, .slice p1 n1 c1] 27))) 35 [.slice ep 1 ec]).next g3
  have hk3 := Blk.new (w := ((w.alloc (.cells #[.int .i64 k1, .int .i64 0, .int .i64 0, .int .i64 0, .string t1, .slice p1 n1 c1] 27)).alloc (.cells #[.slice ep 1 ec] 35))) 24 [.int .i64 0, .int .i64 0, .int .i64 0]
  obtain ⟨m, hm1⟩ := hm
  have hml := World.block_lt_of_cell? _ _ hm1
  have hks : KS (((w.alloc (.cells #[.int .i64 k1, .int .i64 0, .int .i64 0, .int .i64 0, .string t1, .slice p1 n1 c1] 27)).alloc (.cells #[.slice ep 1 ec] 35)).alloc (.cells #[.int .i64 0, .int .i64 0, .int .i64 0] 24)).heap.size nm ep ec 0 ((((w.alloc (.cells #[.int .i64 k1, .int .i64 0, .int .i64 0, .int .i64 0, .string t1, .slice p1 n1 c1] 27)).alloc (.cells #[.slice ep 1 ec] 35)).alloc (.cells #[.int .i64 0, .int .i64 0, .int .i64 0] 24)).alloc (.cells #[.slice ep 1 ec, .int .i64 0, .int .i64 0, .int .i64 0, .int .i64 0] 62)) := ⟨Blk.new _ _, hr.turn fun k hk hl => ⟨Nat.lt_of_lt_of_le hk g123.size, nall.block k hl⟩, m, (nall.cell hml).trans hm1, Nat.lt_of_lt_of_le hml g123.size⟩
  have hx4 : EX (fun k => k < (((w.alloc (.cells #[.int .i64 k1, .int .i64 0, .int .i64 0, .int .i64 0, .string t1, .slice p1 n1 c1] 27)).alloc (.cells #[.slice ep 1 ec] 35)).alloc (.cells #[.int .i64 0, .int .i64 0, .int .i64 0] 24)).heap.size) ((((w.alloc (.cells #[.int .i64 k1, .int .i64 0, .int .i64 0, .int .i64 0, .string t1, .slice p1 n1 c1] 27)).alloc (.cells #[.slice ep 1 ec] 35)).alloc (.cells #[.int .i64 0, .int .i64 0, .int .i64 0] 24)).alloc (.cells #[.slice ep 1 ec, .int .i64 0, .int .i64 0, .int .i64 0, .int .i64 0] 62)) e [.int .i64 k1, .int .i64 0, .int .i64 0, .int .i64 0, .string t1, .slice p1 n1 c1] := hx.turn fun k hk hl => ⟨Nat.lt_of_lt_of_le hk g123.size, nall.block k hl⟩
  have HE := Lib.hid (kexpr_any hnm hwf _ _ hks hx4)
  have H := Lib.hid (And.intro (And.intro hk1 (And.intro hk2 hk3)) (And.intro (hk1.next g4) (And.intro (hk3.next g4) (And.intro nall g123))))
  have HN : Hid (w.heap.size < (((w.alloc (.cells #[.int .i64 k1, .int .i64 0, .int .i64 0, .int .i64 0, .string t1, .slice p1 n1 c1] 27)).alloc (.cells #[.slice ep 1 ec] 35)).alloc (.cells #[.int .i64 0, .int .i64 0, .int .i64 0] 24)).heap.size ∧ w.heap.size + 1 + 1 < (((w.alloc (.cells #[.int .i64 k1, .int .i64 0, .int .i64 0, .int .i64 0, .string t1, .slice p1 n1 c1] 27)).alloc (.cells #[.slice ep 1 ec] 35)).alloc (.cells #[.int .i64 0, .int .i64 0, .int .i64 0] 24)).heap.size) := Lib.hid ⟨hk1.lt, by have := hk3.lt; simp at this ⊢⟩
  have HLX : Hid ((((w.alloc (.cells #[.int .i64 k1, .int .i64 0, .int .i64 0, .int .i64 0, .string t1, .slice p1 n1 c1] 27)).alloc (.cells #[.slice ep 1 ec] 35)).alloc (.cells #[.int .i64 0, .int .i64 0, .int .i64 0] 24)).heap.size ≤ ((((w.alloc (.cells #[.int .i64 k1, .int .i64 0, .int .i64 0, .int .i64 0, .string t1, .slice p1 n1 c1] 27)).alloc (.cells #[.slice ep 1 ec] 35)).alloc (.cells #[.int .i64 0, .int .i64 0, .int .i64 0] 24)).alloc (.cells #[.slice ep 1 ec, .int .i64 0, .int .i64 0, .int .i64 0, .int .i64 0] 62)).heap.size) := Lib.hid (Nat.le_of_lt (Blk.new (w := (((w.alloc (.cells #[.int .i64 k1, .int .i64 0, .int .i64 0, .int .i64 0, .string t1, .slice p1 n1 c1] 27)).alloc (.cells #[.slice ep 1 ec] 35)).alloc (.cells #[.int .i64 0, .int .i64 0, .int .i64 0] 24))) 62 [.slice ep 1 ec, .int .i64 0, .int .i64 0, .int .i64 0, .int .i64 0]).lt)
  simp only [World.size_alloc] at H
  clear g1 g2 g3 g4 g12 g123 nall g234 g34 hk1 hk2 hk3 hm1 hml hks hx4 hx hr hnm hwf
  go_enter Tryz.func5, Tryz.ntmps5
  go_upto_region 1 with fail
  change Hid ((Blk (((w.alloc (.cells #[.int .i64 k1, .int .i64 0, .int .i64 0, .int .i64 0, .string t1, .slice p1 n1 c1] 27)).alloc (.cells #[.slice ep 1 ec] 35)).alloc (.cells #[.int .i64 0, .int .i64 0, .int .i64 0] 24)) _ _ _ ∧ _) ∧ _) at H
  generalize (((w.alloc (.cells #[.int .i64 k1, .int .i64 0, .int .i64 0, .int .i64 0, .string t1, .slice p1 n1 c1] 27)).alloc (.cells #[.slice ep 1 ec] 35)).alloc (.cells #[.int .i64 0, .int .i64 0, .int .i64 0] 24)) = w3 at *
  have x0 := H.out.1.1.cell (i := 0) rfl
  have x1 := H.out.1.1.cell (i := 1) rfl
  have x2 := H.out.1.1.cell (i := 2) rfl
  have x3 := H.out.1.1.cell (i := 3) rfl
  have x4 := H.out.1.1.cell (i := 4) rfl
  have x5 := H.out.1.1.cell (i := 5) rfl
  have v0 := H.out.1.2.1.cell (i := 0) rfl
  go_upto_region 2 with fail
  obtain ⟨bx, hbx⟩ : ∃ b, w3.heap.size = b := ⟨_, rfl⟩
  rw [hbx] at HE HN HLX ⊢
  change Hid (_ ≤ (w3.alloc (.cells #[.slice ep 1 ec, .int .i64 0, .int .i64 0, .int .i64 0, .int .i64 0] 62)).heap.size) at HLX
  change Hid ((Blk w3 _ _ _ ∧ _) ∧ (Blk (w3.alloc (.cells #[.slice ep 1 ec, .int .i64 0, .int .i64 0, .int .i64 0, .int .i64 0] 62)) _ _ _ ∧ (Blk (w3.alloc (.cells #[.slice ep 1 ec, .int .i64 0, .int .i64 0, .int .i64 0, .int .i64 0] 62)) _ _ _ ∧ (Below _ _ (w3.alloc (.cells #[.slice ep 1 ec, .int .i64 0, .int .i64 0, .int .i64 0, .int .i64 0] 62)) ∧ _)))) at H
  generalize (w3.alloc (.cells #[.slice ep 1 ec, .int .i64 0, .int .i64 0, .int .i64 0, .int .i64 0] 62)) = w4 at *
  obtain ⟨b0, hb0⟩ : ∃ b, w.heap.size = b := ⟨_, rfl⟩
  obtain ⟨b5, hb5⟩ : ∃ b, b0 + 1 + 1 = b := ⟨_, rfl⟩
  rw [hb0] at HN H ⊢
  rw [hb5] at HN H ⊢
  have HB0 := Lib.hid (And.intro hb0 hb5)
  clear hb0 hb5 hbx x0 x1 x2 x3 x4 x5 v0
  have x0 := H.out.2.1.cell (i := 0) rfl
  have x1 := H.out.2.1.cell (i := 1) rfl
  have x2 := H.out.2.1.cell (i := 2) rfl
  have x3 := H.out.2.1.cell (i := 3) rfl
  have x4 := H.out.2.1.cell (i := 4) rfl
  have x5 := H.out.2.1.cell (i := 5) rfl
  go_wp2_with fail
  refine HE.out.mono ?_; rintro en w5 ⟨hev, hu5⟩
  have hp5 := H.out.2.2.1.upd hu5 (Nat.ne_of_lt HN.out.2)
  have hlt4 : b0 ≤ bx := Nat.le_of_lt HN.out.1
  clear x0 x1 x2 x3 x4 x5
  cases hv : evK nm e with
  | none =>
    rw [hv] at hev
    dsimp only at hev
    obtain ⟨rfl, hk5⟩ := hev
    have hbw := Below.trans H.out.2.2.2.1 ((hu5.low HLX.out).mono hlt4)
    have H5 := Lib.hid (And.intro hk5 (And.intro hp5 (And.intro hbw hv)))
    clear hk5 hp5 hbw hv hu5 HE H hlt4
    have c4 := H5.out.1.bk.cell (i := 4) rfl
    go_upto_region 4 with fail
    clear c4
    have HKB : Hid (∀ W : World, Blk W bx 62 [.slice ep 1 ec, .int .i64 0, .int .i64 0, .int .i64 0, .int .i64 3] → (fun W => W.cell? ⟨bx, 1, none⟩ = some (.int .i64 0) ∧ W.cell? ⟨bx, 2, none⟩ = some (.int .i64 0) ∧ W.cell? ⟨bx, 3, none⟩ = some (.int .i64 0) ∧ W.cell? ⟨bx, 4, none⟩ = some (.int .i64 3)) W) := Lib.hid fun W hb => ⟨hb.cell (i := 1) rfl, hb.cell (i := 2) rfl, hb.cell (i := 3) rfl, hb.cell (i := 4) rfl⟩
    have hne : bx ≠ b5 := Ne.symm (Nat.ne_of_lt HN.out.2)
    have hbk := H5.out.1.bk
    have hbp := H5.out.2.1
    have ha1 := ((hbk.other (a := ⟨b5, 0, none⟩) (.int .i64 0) hne).other (a := ⟨b5, 1, none⟩) (.int .i64 0) hne).other (a := ⟨b5, 2, none⟩) (.int .i64 0) hne
    have hp1 := ((hbp.set 0 (.int .i64 0)).set 1 (.int .i64 0)).set 2 (.int .i64 0)
    have pc0 := hbp.cell (i := 0) rfl
    have pf0 := hbp.frz 0
    have pc0d := hbp.drew.cell (i := 0) rfl
    have pf0d := hbp.drew.frz 0
    have pc1 := hbp.cell (i := 1) rfl
    have pf1 := hbp.frz 1
    have pc1d := hbp.drew.cell (i := 1) rfl
    have pf1d := hbp.drew.frz 1
    have pc2 := hbp.cell (i := 2) rfl
    have pf2 := hbp.frz 2
    have pc2d := hbp.drew.cell (i := 2) rfl
    have pf2d := hbp.drew.frz 2
    have hb9 := Below.setCell (Below.setCell (Below.setCell H5.out.2.2.1.drew (p := ⟨b5, 0, none⟩) (by show b0 ≤ b5; have := HB0.out.2; omega) (.int .i64 0)) (p := ⟨b5, 1, none⟩) (by show b0 ≤ b5; have := HB0.out.2; omega) (.int .i64 0)) (p := ⟨b5, 2, none⟩) (by show b0 ≤ b5; have := HB0.out.2; omega) (.int .i64 0)
    have HF := Lib.hid (And.intro hbk.drew (And.intro ha1.drew (And.intro hp1.drew hb9)))
    clear hbk hbp ha1 hp1 hb9 hne
    refine wp_region_held_drew (S := (fun W => W.cell? ⟨bx, 1, none⟩ = some (.int .i64 0) ∧ W.cell? ⟨bx, 2, none⟩ = some (.int .i64 0) ∧ W.cell? ⟨bx, 3, none⟩ = some (.int .i64 0) ∧ W.cell? ⟨bx, 4, none⟩ = some (.int .i64 3))) (by kernel_rfl) ?_ (fun hHeld => ?_)
    · exact HKB.out _ HF.out.1
    refine held_take (i := 0) (v := ?_) rfl (by kernel_rfl) (by kernel_rfl) (by kernel_rfl) (fun _ _ _ h => h) (Or.inl ⟨by rfl, ?_⟩) hHeld ?_
    rotate_left
    · intro w hSw; (try dsimp only at hSw); go_simp; (try with_reducible rfl)
    (try simp only [Act.put, List.setIfInBounds_toArray, List.set_cons_zero, List.set_cons_succ])
    refine held_take (i := 1) (v := ?_) rfl (by kernel_rfl) (by kernel_rfl) (by kernel_rfl) (fun _ _ _ h => h) (Or.inl ⟨by rfl, ?_⟩) hHeld ?_
    rotate_left
    · intro w hSw; (try dsimp only at hSw); go_simp; (try with_reducible rfl)
    (try simp only [Act.put, List.setIfInBounds_toArray, List.set_cons_zero, List.set_cons_succ])
    refine held_take (i := 2) (v := ?_) rfl (by kernel_rfl) (by kernel_rfl) (by kernel_rfl) (fun _ _ _ h => h) (Or.inl ⟨by rfl, ?_⟩) hHeld ?_
    rotate_left
    · intro w hSw; (try dsimp only at hSw); go_simp; (try with_reducible rfl)
    (try simp only [Act.put, List.setIfInBounds_toArray, List.set_cons_zero, List.set_cons_succ])
    refine held_take (i := 3) (v := ?_) rfl (by kernel_rfl) (by kernel_rfl) (by kernel_rfl) (fun _ _ _ h => h) (Or.inl ⟨by rfl, ?_⟩) hHeld ?_
    rotate_left
    · intro w hSw; (try dsimp only at hSw); go_simp; (try with_reducible rfl)
    (try simp only [Act.put, List.setIfInBounds_toArray, List.set_cons_zero, List.set_cons_succ])
    refine held_take (i := 4) (v := ?_) rfl (by kernel_rfl) (by kernel_rfl) (by kernel_rfl) (fun _ _ _ h => h) (Or.inl ⟨by rfl, ?_⟩) hHeld ?_
    rotate_left
    · intro w hSw; (try dsimp only at hSw); go_simp; (try with_reducible rfl)
    (try simp only [Act.put, List.setIfInBounds_toArray, List.set_cons_zero, List.set_cons_succ])
    refine held_take (i := 5) (v := ?_) rfl (by kernel_rfl) (by kernel_rfl) (by kernel_rfl) (fun _ _ _ h => h) (Or.inl ⟨by rfl, ?_⟩) hHeld ?_
    rotate_left
    · intro w hSw; (try dsimp only at hSw); go_simp; (try with_reducible rfl)
    (try simp only [Act.put, List.setIfInBounds_toArray, List.set_cons_zero, List.set_cons_succ])
    refine held_take (i := 6) (v := ?_) rfl (by kernel_rfl) (by kernel_rfl) (by kernel_rfl) (fun _ _ _ h => h) (Or.inl ⟨by rfl, ?_⟩) hHeld ?_
    rotate_left
    · intro w hSw; (try dsimp only at hSw); go_simp; (try with_reducible rfl)
    (try simp only [Act.put, List.setIfInBounds_toArray, List.set_cons_zero, List.set_cons_succ])
    refine held_take (i := 7) (v := ?_) rfl (by kernel_rfl) (by kernel_rfl) (by kernel_rfl) (fun _ _ _ h => h) (Or.inl ⟨by rfl, ?_⟩) hHeld ?_
    rotate_left
    · intro w hSw; (try dsimp only at hSw); go_simp; (try with_reducible rfl)
    (try simp only [Act.put, List.setIfInBounds_toArray, List.set_cons_zero, List.set_cons_succ])
    refine wpAnyH_ready (rs := [8]) (by kernel_rfl) (by simp) ?_
    refine held_cons rfl (fun K hK => ?_) AllReadyH.nil
    go_simp
    refine hK.out _ _ ?_ (fun hHeld2 => ?_)
    · (try dsimp only)
      exact HKB.out _ HF.out.1
    clear hK K hHeld
    have hHeld := hHeld2
    clear hHeld2
    (try simp only [Act.put, List.setIfInBounds_toArray, List.set_cons_zero, List.set_cons_succ])
    refine wpAnyH_ready (rs := [9]) (by kernel_rfl) (by simp) ?_
    refine held_cons rfl (fun K hK => ?_) AllReadyH.nil
    go_simp
    refine hK.out _ _ ?_ (fun hHeld2 => ?_)
    · (try dsimp only)
      exact HKB.out _ HF.out.2.1
    clear hK K hHeld
    have hHeld := hHeld2
    clear hHeld2
    (try simp only [Act.put, List.setIfInBounds_toArray, List.set_cons_zero, List.set_cons_succ])
    refine wpAnyH_ready (rs := [10]) (by kernel_rfl) (by simp) ?_
    refine held_cons rfl (fun K hK => ?_) AllReadyH.nil
    go_simp
    refine hK.out _ _ ?_ (fun hHeld2 => ?_)
    · (try dsimp only)
      exact HKB.out _ HF.out.2.1
    clear hK K hHeld
    have hHeld := hHeld2
    clear hHeld2
    (try simp only [Act.put, List.setIfInBounds_toArray, List.set_cons_zero, List.set_cons_succ])
    refine wpAnyH_done (by kernel_rfl) ?_ _
    clear hHeld pc0 pc1 pc2 pf0 pf1 pf2 pc0d pc1d pc2d pf0d pf1d pf2d
    have e0 := HF.out.2.2.1.cell (i := 0) rfl
    have e1 := HF.out.2.2.1.cell (i := 1) rfl
    have e2 := HF.out.2.2.1.cell (i := 2) rfl
    go_wp2_with fail
    refine bodyPost_ret (v := .tuple #[.int .i64 0, .agg #[.int .i64 0, .int .i64 0, .int .i64 0], .int .i64 3]) (by simp [results, Tryz.results5, go_sem, e0, e1, e2]) rfl ?_
    rw [H5.out.2.2.2]
    exact ⟨rfl, by rw [HB0.out.1]; exact HF.out.2.2.2⟩
  | some n =>
    rw [hv] at hev
    dsimp only at hev
    obtain ⟨rfl, hk5⟩ := hev
    have hbw := Below.trans H.out.2.2.2.1 ((hu5.low HLX.out).mono hlt4)
    have H5 := Lib.hid (And.intro hk5 (And.intro hp5 (And.intro hbw hv)))
    clear hk5 hp5 hbw hv hu5 HE H hlt4
    have c4 := H5.out.1.bk.cell (i := 4) rfl
    have r0 := H5.out.2.1.cell (i := 0) rfl
    have r1 := H5.out.2.1.cell (i := 1) rfl
    have r2 := H5.out.2.1.cell (i := 2) rfl
    have f0 := H5.out.2.1.frz 0
    have f1 := H5.out.2.1.frz 1
    have f2 := H5.out.2.1.frz 2
    go_wp2_with fail
    have hp1 := ((H5.out.2.1.set 0 (.int .i64 0)).set 1 (.int .i64 0)).set 2 (.int .i64 0)
    have hb9 := Below.setCell (Below.setCell (Below.setCell H5.out.2.2.1 (p := ⟨b5, 0, none⟩) (by show b0 ≤ b5; have := HB0.out.2; omega) (.int .i64 0)) (p := ⟨b5, 1, none⟩) (by show b0 ≤ b5; have := HB0.out.2; omega) (.int .i64 0)) (p := ⟨b5, 2, none⟩) (by show b0 ≤ b5; have := HB0.out.2; omega) (.int .i64 0)
    clear r0 r1 r2 f0 f1 f2 c4
    generalize (((w5.setCell ⟨b5, 0, none⟩ (.int .i64 0)).setCell ⟨b5, 1, none⟩ (.int .i64 0)).setCell ⟨b5, 2, none⟩ (.int .i64 0)) = w9 at *
    have e0 := hp1.cell (i := 0) rfl
    have e1 := hp1.cell (i := 1) rfl
    have e2 := hp1.cell (i := 2) rfl
    refine bodyPost_ret (v := .tuple #[.int .i64 n, .agg #[.int .i64 0, .int .i64 0, .int .i64 0], .int .i64 0]) (by simp [results, Tryz.results5, go_sem, e0, e1, e2]) rfl ?_
    rw [H5.out.2.2.2]
    exact ⟨rfl, by rw [HB0.out.1]; exact hb9⟩
end Go.Proofs.YtkoggfahjlnecaaGreatDoor
