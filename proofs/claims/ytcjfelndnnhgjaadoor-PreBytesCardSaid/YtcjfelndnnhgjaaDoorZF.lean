/- Texts of this claim, one behind another: G25, G26, G27. They state lemmas; each names its own conditions. -/
import Derived.Test.YtcjfelndnnhgjaaDoorZD
import Derived.Test.YtcjfelndnnhgjaaDoorZ3
namespace Go.Proofs.YtcjfelndnnhgjaaDoor
set_option linter.unusedVariables false
open Go.RowKit Go.Maps

theorem wx0 : WX x0 := ⟨fun _ => Nat.le_refl _, fun i => by simp [x0], by simp [x0], fun _ => ⟨by simp [x0], by simp [x0], fun i hi => by simp [x0] at hi⟩⟩
/-- what Expand hands back -/
def ExR (w : World) (R : List Pc × (Int × Int × Int) × Int) (e : Ending) (w' : World) : Prop :=
  ∃ v, e = .returned (.tuple #[v, .agg #[.int .i64 R.2.1.1, .int .i64 R.2.1.2.1, .int .i64 R.2.1.2.2], .int .i64 R.2.2]) ∧ w'.ownsRow w.heap.size 37 5 v R.1.length (outCells R.1) ∧ Below w.heap.size w w'
set_option maxRecDepth 100000 in
set_option maxHeartbeats 8000000 in
theorem expand_pre {w : World} {bt : Nat} {ps : List Part} {fs : List Fil} (hM : Made w bt ps fs) (hl : fs.length ≤ 100000) (hMax : Max w) (htl : ∀ n, (fs.getD n default).text.size ≤ 32768) (top : Bs) :
    Calls Tryd.prog 8 #[.pointer (some ⟨bt, 0, none⟩), .string (bstr top)] w (ExR w (expandP (textsOf fs) (findN fs) top)) := by
  obtain ⟨R, hR⟩ : ∃ R, expandP (textsOf fs) (findN fs) top = R := ⟨_, rfl⟩
  rw [hR]
  unfold expandP at hR
  obtain ⟨K, hK⟩ : ∃ K, findN fs top = K := ⟨_, rfl⟩
  have hKl : K ≤ fs.length := by rw [← hK]; exact findN_le fs top
  rw [hK] at hR
  obtain ⟨TP, hTP⟩ : ∃ TP, bstr top = TP := ⟨_, rfl⟩
  have hFd := fun W' (hb : Below w.heap.size w W') => findn_any (hM.below hb) hl top
  rw [hK, hTP] at hFd
  have hFa := fun (W' : World) (F : Nat → Prop) (bx : Nat) (hx : HasX w.heap.size bx (.pointer (some ⟨bt, 0, none⟩)) F W' x0) (hb : Below w.heap.size w W') (h1 : 1 ≤ K) => file_any hM hl hMax htl 8 (Nat.le_refl _) W' F x0 K 0 0 0 hx wx0 hb rfl rfl h1 hKl ⟨Nat.zero_le _, fun _ => Nat.zero_le _⟩
  rw [hTP]
  have HFd := Lib.hid hFd
  have HFa := Lib.hid hFa
  have HR := Lib.hid hR
  clear hM hl hMax htl hR hK hKl hTP hFd hFa
  have hmm := @run_makeMap Tryd.prog
  go_enter Tryd.func8, Tryd.ntmps8
  go_wp2_with fail
  have hbA := Below.new w (.cells #[.int .i64 0, .int .i64 0, .int .i64 0] 33)
  have kA : Blk (w.alloc (.cells #[.int .i64 0, .int .i64 0, .int .i64 0] 33)) w.heap.size 33 [.int .i64 0, .int .i64 0, .int .i64 0] := Blk.new _ _
  have hsA : (w.alloc (.cells #[.int .i64 0, .int .i64 0, .int .i64 0] 33)).heap.size = w.heap.size + 1 := World.size_alloc _ _
  have hmA : MapIs ((w.alloc (.cells #[.int .i64 0, .int .i64 0, .int .i64 0] 33)).alloc (.map #[] 0)) (w.alloc (.cells #[.int .i64 0, .int .i64 0, .int .i64 0] 33)).heap.size 0 (.map []) := World.ownsMap_made _ _ _ _
  rw [hsA] at hmA
  generalize w.alloc (.cells #[.int .i64 0, .int .i64 0, .int .i64 0] 33) = wA at *
  have hbB := Below.next hbA (Below.new wA (.map #[] 0))
  have kB := kA.next (Below.new wA (.map #[] 0))
  have hsB : (wA.alloc (.map #[] 0)).heap.size = wA.heap.size + 1 := World.size_alloc _ _
  rw [hsA] at hsB
  generalize wA.alloc (.map #[] 0) = wB at *
  have hbC := Below.next hbB (Below.new wB (.cells #[.pointer (some ⟨bt, 0, none⟩), .map (some (w.heap.size + 1)), .slice none 0 0, .slice none 0 0, .int .i64 0, .int .i64 0, .int .i64 0, .int .i64 0, .int .i64 0, .int .i64 0] 63))
  have kC := kB.next (Below.new wB (.cells #[.pointer (some ⟨bt, 0, none⟩), .map (some (w.heap.size + 1)), .slice none 0 0, .slice none 0 0, .int .i64 0, .int .i64 0, .int .i64 0, .int .i64 0, .int .i64 0, .int .i64 0] 63))
  have kX : Blk (wB.alloc (.cells #[.pointer (some ⟨bt, 0, none⟩), .map (some (w.heap.size + 1)), .slice none 0 0, .slice none 0 0, .int .i64 0, .int .i64 0, .int .i64 0, .int .i64 0, .int .i64 0, .int .i64 0] 63)) wB.heap.size 63 (xCells (.pointer (some ⟨bt, 0, none⟩)) (w.heap.size + 1) (.slice none 0 0) (.slice none 0 0) x0) := Blk.new _ _
  have hmC : MapIs (wB.alloc (.cells #[.pointer (some ⟨bt, 0, none⟩), .map (some (w.heap.size + 1)), .slice none 0 0, .slice none 0 0, .int .i64 0, .int .i64 0, .int .i64 0, .int .i64 0, .int .i64 0, .int .i64 0] 63)) (w.heap.size + 1) 0 (.map []) := ownsMap_keep hmA ((Below.new wB _).block _ (by omega))
  rw [hsB] at kX
  generalize wB.alloc (.cells #[.pointer (some ⟨bt, 0, none⟩), .map (some (w.heap.size + 1)), .slice none 0 0, .slice none 0 0, .int .i64 0, .int .i64 0, .int .i64 0, .int .i64 0, .int .i64 0, .int .i64 0] 63) = wC at *
  have hxat : XAt w.heap.size (w.heap.size + 1 + 1) (w.heap.size + 1) (.pointer (some ⟨bt, 0, none⟩)) wC x0 (.slice none 0 0) (.slice none 0 0) 0 (.map []) :=
    ⟨kX, World.ownsRow_nil _ _ _ _, World.ownsRow_nil _ _ _ _, hmC, fun n => rfl, Nat.le_refl _, by simp [Value.ownBlock], by simp [Value.ownBlock], by simp [Value.ownBlock], by simp [Value.ownBlock], fun g hg => by simp [Value.ownBlock] at hg, by omega, by omega, by omega⟩
  obtain ⟨F, hFe⟩ : ∃ F, xFoot (w.heap.size + 1 + 1) (w.heap.size + 1) (.slice none 0 0) (.slice none 0 0) = F := ⟨_, rfl⟩
  have hnF : ¬ F w.heap.size := by
    rw [← hFe]
    rintro (h | h | h | h)
    · omega
    · omega
    · cases h
    · cases h
  have hhx : HasX w.heap.size (w.heap.size + 1 + 1) (.pointer (some ⟨bt, 0, none⟩)) F wC x0 := ⟨_, _, _, _, _, hxat, hFe.symm⟩
  have HC := Lib.hid (And.intro hhx (And.intro hbC (And.intro kC hnF)))
  obtain ⟨be, hbe⟩ : ∃ be, w.heap.size = be := ⟨_, rfl⟩
  clear hbA kA hsA hmA hbB kB hsB hbC kC kX hmC hxat hFe hnF hhx hmm
  refine (HFd.out wC HC.out.2.1).mono ?_; rintro e wD ⟨rfl, hbD⟩
  have HD := Lib.hid (And.intro (HC.out.1.below hbD) (And.intro (Below.next HC.out.2.1 hbD) (HC.out.2.2.1.next hbD)))
  have HBe := Lib.hid hbe
  clear hbD hbe
  by_cases hK0 : K = 0
  · subst hK0
    have hRe : R = ([], (0, 0, 0), 9) := by rw [← HR.out, if_pos rfl]
    have k4 := HD.out.2.2
    rw [HBe.out] at k4
    have f0 := k4.frz 0
    have f1 := k4.frz 1
    have f2 := k4.frz 2
    have t0 := k4.cell (i := 0) rfl
    have t1 := k4.cell (i := 1) rfl
    have t2 := k4.cell (i := 2) rfl
    have HRe := Lib.hid hRe
    clear hRe k4
    rw [HBe.out]
    go_wp2_with fail
    have k5 := HD.out.2.2
    rw [HBe.out] at k5
    have hk := ((k5.set 0 (.int .i64 0)).set 1 (.int .i64 0)).set 2 (.int .i64 0)
    have hbl := (((HD.out.2.1).setCell (p := ⟨be, 0, none⟩) (show w.heap.size ≤ be from Nat.le_of_eq HBe.out) (.int .i64 0)).setCell (p := ⟨be, 1, none⟩) (show w.heap.size ≤ be from Nat.le_of_eq HBe.out) (.int .i64 0)).setCell (p := ⟨be, 2, none⟩) (show w.heap.size ≤ be from Nat.le_of_eq HBe.out) (.int .i64 0)
    have e0 := hk.cell (i := 0) rfl
    have e1 := hk.cell (i := 1) rfl
    have e2 := hk.cell (i := 2) rfl
    exact bodyPost_ret (v := .tuple #[.slice none 0 0, .agg #[.int .i64 0, .int .i64 0, .int .i64 0], .int .i64 9]) (by simp [results, Tryd.results8, go_sem, e0, e1, e2]) rfl ⟨.slice none 0 0, by rw [HRe.out], by rw [HRe.out]; exact World.ownsRow_nil _ _ _ _, hbl⟩
  · have hKz : ((K : Int) == 0) = false := by simp [hK0]
    have hK1 := Lib.hid (show 1 ≤ K by omega)
    have hRe := HR.out
    rw [if_neg hK0] at hRe
    have HRe := Lib.hid hRe
    clear hRe hK0
    go_wp2_with fail
    refine (HFa.out wD F _ HD.out.1 HD.out.2.1 hK1.out).mono ?_; rintro e wE ⟨FE, rfl, hxE, huE⟩
    obtain ⟨S', hS'⟩ : ∃ S', fileP (textsOf fs) (findN fs) 8 x0 K 0 0 0 = S' := ⟨_, rfl⟩
    rw [hS'] at hxE
    have hRf := HRe.out
    rw [hS'] at hRf
    obtain ⟨kE, hnE⟩ := huE.keepBlk HD.out.2.2 HC.out.2.2.2
    have hbE : Below w.heap.size w wE := (HD.out.2.1).trans (huE.low (fun g hg => (HD.out.1.lt g hg).1) HD.out.2.1.size)
    rw [HBe.out] at kE hnE
    obtain ⟨bm, vt, vo, k, D, hxa, hFE⟩ := hxE
    rw [HBe.out] at hxa
    have x9 := hxa.blk.cell (i := 9) rfl
    have x6 := hxa.blk.cell (i := 6) rfl
    have x7 := hxa.blk.cell (i := 7) rfl
    have x8 := hxa.blk.cell (i := 8) rfl
    have x3 := hxa.blk.cell (i := 3) rfl
    have f0 := kE.frz 0
    have f1 := kE.frz 1
    have f2 := kE.frz 2
    have t0 := kE.cell (i := 0) rfl
    have t1 := kE.cell (i := 1) rfl
    have t2 := kE.cell (i := 2) rfl
    have hvo : vo.ownBlock ≠ some be := fun e => hnE (by rw [hFE, HBe.out]; exact .inr (.inr (.inr e)))
    have hbx : be ≠ be + 1 + 1 := by omega
    have HE := Lib.hid (And.intro hxa (And.intro kE (And.intro hvo (And.intro hbE (And.intro hRf hbx)))))
    clear huE hS' hRf kE hnE hbE hxa hFE hvo hbx
    rw [HBe.out]
    by_cases he : S'.err = 0
    · rw [he] at x9
      have HEr := Lib.hid he
      clear he x6 x7 x8
      go_wp2_with fail
      have hk := ((HE.out.2.1.set 0 (.int .i64 0)).set 1 (.int .i64 0)).set 2 (.int .i64 0)
      have hbl := (((HE.out.2.2.2.1).setCell (p := ⟨be, 0, none⟩) (show w.heap.size ≤ be from Nat.le_of_eq HBe.out) (.int .i64 0)).setCell (p := ⟨be, 1, none⟩) (show w.heap.size ≤ be from Nat.le_of_eq HBe.out) (.int .i64 0)).setCell (p := ⟨be, 2, none⟩) (show w.heap.size ≤ be from Nat.le_of_eq HBe.out) (.int .i64 0)
      have hot : ∀ i (u : Value) (W : World), W.ownsRow be 37 5 vo S'.out.length (outCells S'.out) → (W.setCell ⟨be, i, none⟩ u).ownsRow be 37 5 vo S'.out.length (outCells S'.out) := fun i u W h => ownsRow_setCell_far h HE.out.2.2.1 u
      have hrow := hot 2 (.int .i64 0) _ (hot 1 (.int .i64 0) _ (hot 0 (.int .i64 0) _ HE.out.1.ot))
      have e0 := hk.cell (i := 0) rfl
      have e1 := hk.cell (i := 1) rfl
      have e2 := hk.cell (i := 2) rfl
      have hRq := HE.out.2.2.2.2.1
      rw [if_neg (by rw [HEr.out]; simp)] at hRq
      exact bodyPost_ret (v := .tuple #[vo, .agg #[.int .i64 0, .int .i64 0, .int .i64 0], .int .i64 0]) (by simp [results, Tryd.results8, go_sem, e0, e1, e2]) rfl ⟨vo, by rw [← hRq], by rw [← hRq, HBe.out]; exact hrow, hbl⟩
    · have heb : (S'.err == 0) = false := by simp [he]
      have HEr := Lib.hid he
      clear he x3
      go_upto_region 7 with fail
      have s0 : wE.drew.cell? ⟨be + 1 + 1, 6, none⟩ = some (.int .i64 S'.f) ∧ wE.drew.cell? ⟨be + 1 + 1, 7, none⟩ = some (.int .i64 S'.l) ∧ wE.drew.cell? ⟨be + 1 + 1, 8, none⟩ = some (.int .i64 S'.c) ∧ wE.drew.cell? ⟨be + 1 + 1, 9, none⟩ = some (.int .i64 S'.err) := ⟨x6, x7, x8, x9⟩
      have s1 : ∀ u0 u1 u2, (((wE.drew.setCell ⟨be, 0, none⟩ u0).setCell ⟨be, 1, none⟩ u1).setCell ⟨be, 2, none⟩ u2).cell? ⟨be + 1 + 1, 6, none⟩ = some (.int .i64 S'.f) ∧ (((wE.drew.setCell ⟨be, 0, none⟩ u0).setCell ⟨be, 1, none⟩ u1).setCell ⟨be, 2, none⟩ u2).cell? ⟨be + 1 + 1, 7, none⟩ = some (.int .i64 S'.l) ∧ (((wE.drew.setCell ⟨be, 0, none⟩ u0).setCell ⟨be, 1, none⟩ u1).setCell ⟨be, 2, none⟩ u2).cell? ⟨be + 1 + 1, 8, none⟩ = some (.int .i64 S'.c) ∧ (((wE.drew.setCell ⟨be, 0, none⟩ u0).setCell ⟨be, 1, none⟩ u1).setCell ⟨be, 2, none⟩ u2).cell? ⟨be + 1 + 1, 9, none⟩ = some (.int .i64 S'.err) := by
        intro u0 u1 u2
        have hf : ∀ (W : World) (i j : Nat) (u : Value), (W.setCell ⟨be, i, none⟩ u).cell? ⟨be + 1 + 1, j, none⟩ = W.cell? ⟨be + 1 + 1, j, none⟩ := fun W i j u => World.cell?_setCell_far _ _ _ _ (by simp; omega)
        simp only [hf]
        exact s0
      have f0' : wE.drew.frozen? ⟨be, 0, none⟩ = false := f0
      have f1' : wE.drew.frozen? ⟨be, 1, none⟩ = false := f1
      have f2' : wE.drew.frozen? ⟨be, 2, none⟩ = false := f2
      have t0' : wE.drew.cell? ⟨be, 0, none⟩ = some (.int .i64 0) := t0
      have t1' : wE.drew.cell? ⟨be, 1, none⟩ = some (.int .i64 0) := t1
      have t2' : wE.drew.cell? ⟨be, 2, none⟩ = some (.int .i64 0) := t2
      have HE' := Lib.hid (And.intro (HE.out.2.1.next (Below.refl _ _).drew) (Below.next HE.out.2.2.2.1 (Below.refl _ _).drew))
      clear x6 x7 x8 x9
      refine wp_region_held_drew (S := fun w' => w'.cell? ⟨be + 1 + 1, 6, none⟩ = some (.int .i64 S'.f) ∧ w'.cell? ⟨be + 1 + 1, 7, none⟩ = some (.int .i64 S'.l) ∧ w'.cell? ⟨be + 1 + 1, 8, none⟩ = some (.int .i64 S'.c) ∧ w'.cell? ⟨be + 1 + 1, 9, none⟩ = some (.int .i64 S'.err)) (by kernel_rfl) s0 (fun hHeld => ?_)
      refine held_take (i := 0) (v := ?_) rfl (by kernel_rfl) (by kernel_rfl) (by kernel_rfl) (fun _ _ _ h => h) (Or.inl ⟨by rfl, ?_⟩) hHeld ?_
      rotate_left
      · intro w hSw; obtain ⟨hS1, hS2, hS3, hS4⟩ := hSw; go_simp; (try with_reducible rfl)
      try simp only [Act.put, List.setIfInBounds_toArray, List.set_cons_zero, List.set_cons_succ]
      refine held_take (i := 1) (v := ?_) rfl (by kernel_rfl) (by kernel_rfl) (by kernel_rfl) (fun _ _ _ h => h) (Or.inl ⟨by rfl, ?_⟩) hHeld ?_
      rotate_left
      · intro w hSw; obtain ⟨hS1, hS2, hS3, hS4⟩ := hSw; go_simp; (try with_reducible rfl)
      try simp only [Act.put, List.setIfInBounds_toArray, List.set_cons_zero, List.set_cons_succ]
      refine held_take (i := 2) (v := ?_) rfl (by kernel_rfl) (by kernel_rfl) (by kernel_rfl) (fun _ _ _ h => h) (Or.inl ⟨by rfl, ?_⟩) hHeld ?_
      rotate_left
      · intro w hSw; obtain ⟨hS1, hS2, hS3, hS4⟩ := hSw; go_simp; (try with_reducible rfl)
      try simp only [Act.put, List.setIfInBounds_toArray, List.set_cons_zero, List.set_cons_succ]
      refine held_take (i := 3) (v := ?_) rfl (by kernel_rfl) (by kernel_rfl) (by kernel_rfl) (fun _ _ _ h => h) (Or.inl ⟨by rfl, ?_⟩) hHeld ?_
      rotate_left
      · intro w hSw; obtain ⟨hS1, hS2, hS3, hS4⟩ := hSw; go_simp; (try with_reducible rfl)
      try simp only [Act.put, List.setIfInBounds_toArray, List.set_cons_zero, List.set_cons_succ]
      refine held_take (i := 4) (v := ?_) rfl (by kernel_rfl) (by kernel_rfl) (by kernel_rfl) (fun _ _ _ h => h) (Or.inl ⟨by rfl, ?_⟩) hHeld ?_
      rotate_left
      · intro w hSw; obtain ⟨hS1, hS2, hS3, hS4⟩ := hSw; go_simp; (try with_reducible rfl)
      try simp only [Act.put, List.setIfInBounds_toArray, List.set_cons_zero, List.set_cons_succ]
      refine held_take (i := 5) (v := ?_) rfl (by kernel_rfl) (by kernel_rfl) (by kernel_rfl) (fun _ _ _ h => h) (Or.inl ⟨by rfl, ?_⟩) hHeld ?_
      rotate_left
      · intro w hSw; obtain ⟨hS1, hS2, hS3, hS4⟩ := hSw; go_simp; (try with_reducible rfl)
      try simp only [Act.put, List.setIfInBounds_toArray, List.set_cons_zero, List.set_cons_succ]
      refine held_take (i := 6) (v := ?_) rfl (by kernel_rfl) (by kernel_rfl) (by kernel_rfl) (fun _ _ _ h => h) (Or.inl ⟨by rfl, ?_⟩) hHeld ?_
      rotate_left
      · intro w hSw; obtain ⟨hS1, hS2, hS3, hS4⟩ := hSw; go_simp; (try with_reducible rfl)
      try simp only [Act.put, List.setIfInBounds_toArray, List.set_cons_zero, List.set_cons_succ]
      refine held_take (i := 7) (v := ?_) rfl (by kernel_rfl) (by kernel_rfl) (by kernel_rfl) (fun _ _ _ h => h) (Or.inl ⟨by rfl, ?_⟩) hHeld ?_
      rotate_left
      · intro w hSw; obtain ⟨hS1, hS2, hS3, hS4⟩ := hSw; go_simp; (try with_reducible rfl)
      try simp only [Act.put, List.setIfInBounds_toArray, List.set_cons_zero, List.set_cons_succ]
      refine held_take (i := 8) (v := ?_) rfl (by kernel_rfl) (by kernel_rfl) (by kernel_rfl) (fun _ _ _ h => h) (Or.inl ⟨by rfl, ?_⟩) hHeld ?_
      rotate_left
      · intro w hSw; obtain ⟨hS1, hS2, hS3, hS4⟩ := hSw; go_simp; (try with_reducible rfl)
      try simp only [Act.put, List.setIfInBounds_toArray, List.set_cons_zero, List.set_cons_succ]
      refine wpAnyH_ready (rs := [9]) (by kernel_rfl) (by simp) ?_
      refine held_cons rfl (fun K hK => ?_) AllReadyH.nil
      go_simp
      refine hK.out _ _ (s1 _ _ _) (fun hHeld => ?_)
      clear hK K
      try simp only [Act.put, List.setIfInBounds_toArray, List.set_cons_zero, List.set_cons_succ]
      refine held_take (i := 10) (v := ?_) rfl (by kernel_rfl) (by kernel_rfl) (by kernel_rfl) (fun _ _ _ h => h) (Or.inl ⟨by rfl, ?_⟩) hHeld ?_
      rotate_left
      · intro w hSw; obtain ⟨hS1, hS2, hS3, hS4⟩ := hSw; go_simp; (try with_reducible rfl)
      try simp only [Act.put, List.setIfInBounds_toArray, List.set_cons_zero, List.set_cons_succ]
      refine wpAnyH_done (by kernel_rfl) ?_ _
      go_wp2_with fail
      have hk := ((HE.out.2.1.set 0 (.int .i64 S'.f)).set 1 (.int .i64 S'.l)).set 2 (.int .i64 S'.c)
      have hbl := ((((HE.out.2.2.2.1).setCell (p := ⟨be, 0, none⟩) (show w.heap.size ≤ be from Nat.le_of_eq HBe.out) (.int .i64 S'.f)).setCell (p := ⟨be, 1, none⟩) (show w.heap.size ≤ be from Nat.le_of_eq HBe.out) (.int .i64 S'.l)).setCell (p := ⟨be, 2, none⟩) (show w.heap.size ≤ be from Nat.le_of_eq HBe.out) (.int .i64 S'.c)).drew
      have e0 := hk.cell (i := 0) rfl
      have e1 := hk.cell (i := 1) rfl
      have e2 := hk.cell (i := 2) rfl
      have hRq := HE.out.2.2.2.2.1
      rw [if_pos HEr.out] at hRq
      exact bodyPost_ret (v := .tuple #[.slice none 0 0, .agg #[.int .i64 S'.f, .int .i64 S'.l, .int .i64 S'.c], .int .i64 S'.err]) (by simp [results, Tryd.results8, go_sem, e0, e1, e2]) rfl ⟨.slice none 0 0, by rw [← hRq], by rw [← hRq]; exact World.ownsRow_nil _ _ _ _, hbl⟩
end Go.Proofs.YtcjfelndnnhgjaaDoor
namespace Go.Proofs.YtcjfelndnnhgjaaDoor
set_option linter.unusedVariables false
open Go.RowKit Go.Maps

/-- what the law's expand hands back -/
def LeR (w : World) (R : List Pc × (Int × Int × Int) × Int) (e : Ending) (w' : World) : Prop :=
  ∃ v, e = .returned (.tuple #[v, .int .i64 R.2.2]) ∧ w'.ownsRow w.heap.size 37 5 v R.1.length (outCells R.1) ∧ Below w.heap.size w w'
set_option maxRecDepth 100000 in
set_option maxHeartbeats 8000000 in
theorem lexp_any {w : World} {fs : List Fil} {v : Value} (hr : RO w v 2 fs.length (filCells fs)) (he : NewErr fs 0) (hl : fs.length ≤ 16) (hMax : Max w) (hnz : ∀ n, (fs.getD n default).name.size ≤ 32768) (htl : ∀ n, (fs.getD n default).text.size ≤ 32768) (top : Bs) :
    Calls Tryd.prog 11 #[v, .string (bstr top)] w (LeR w (expandP (textsOf fs) (findN fs) top)) := by
  obtain ⟨R, hR⟩ : ∃ R, expandP (textsOf fs) (findN fs) top = R := ⟨_, rfl⟩
  rw [hR]
  obtain ⟨TP, hTP⟩ : ∃ TP, bstr top = TP := ⟨_, rfl⟩
  have hF := files_any v fs hr (by omega)
  have hN := fun (W' : World) (v' : Value) (hr' : RO W' v' 2 fs.length (filCells fs)) => new_ok v' fs hr' he (fun i _ => Nat.le_trans (hnz i) (by decide)) (fun i _ => Nat.le_trans (htl i) (by decide))
  have hE := fun (W' : World) (bt : Nat) (ps : List Part) (hM : Made W' bt ps fs) (hx : Max W') => expand_pre hM (by omega) hx htl top
  rw [hR, hTP] at hE
  rw [hTP]
  have HF := Lib.hid hF
  have HN := Lib.hid hN
  have HE := Lib.hid hE
  have HM := Lib.hid hMax
  obtain ⟨p, c, rfl⟩ := hr.form
  clear hr he hl hMax hnz htl hF hN hE hR hTP
  go_enter Tryd.func11, Tryd.ntmps11
  go_wp2_with fail
  refine HF.out.mono ?_; rintro e w1 ⟨v1, rfl, hr1, hb1⟩
  have H1 := Lib.hid (And.intro hr1 hb1)
  clear hr1 hb1
  go_wp2_with fail
  refine (HN.out w1 v1 H1.out.1).mono ?_; rintro e w2 ⟨bt, ps, rfl, hM2, hfar, hb2⟩
  have H2 := Lib.hid (And.intro hM2 (Below.next H1.out.2 hb2))
  clear hM2 hfar hb2
  go_wp2_with fail
  refine (HE.out w2 bt ps H2.out.1 (HM.out.below H2.out.2)).mono ?_; rintro e w3 ⟨v3, rfl, ho3, hb3⟩
  have H3 := Lib.hid (And.intro ho3 (And.intro (Below.next H2.out.2 hb3) H2.out.2.size))
  clear ho3 hb3
  go_wp2_with fail
  go_ret2
  refine ⟨v3, rfl, ownsRow_mono ?_ H3.out.2.2, H3.out.2.1.alloc H3.out.2.1.size _⟩
  exact H3.out.1.alloc _
end Go.Proofs.YtcjfelndnnhgjaaDoor
namespace Go.Proofs.YtcjfelndnnhgjaaDoor
set_option linter.unusedVariables false
open Go.RowKit Go.Maps

/-! # awake -/
theorem fil_all {fs : List Fil} {p : Fil → Prop} (h : ∀ f ∈ fs, p f) (hd : p default) (n : Nat) : p (fs.getD n default) := by
  by_cases hn : n < fs.length
  · rw [List.getD, List.getElem?_eq_getElem hn]
    exact h _ (List.getElem_mem hn)
  · rw [List.getD, List.getElem?_eq_none (by omega)]
    exact hd
theorem sameS_bstr (a : Bs) (b : Bs) : sameS (bstr a) (bstr b) = decide (b = a) := by
  unfold sameS
  rw [bstr_toList, bstr_toList]
  by_cases h : b = a
  · subst h; simp
  · rw [decide_eq_false h]
    simp only [beq_eq_false_iff_ne, ne_eq]
    exact fun e => h e.symm
theorem findN_one (nm : Bs) (tx : ByteArray) : findN [⟨bstr nm, tx⟩] = fun b => if b = nm then 1 else 0 := by
  funext b
  show (if sameS (bstr nm) (bstr b) = true then 1 else if findN [] b = 0 then 0 else findN [] b + 1) = _
  rw [sameS_bstr]
  by_cases h : b = nm
  · simp [h]
  · simp [h, findN]
theorem findN_two (n1 n2 : Bs) (t1 t2 : ByteArray) : findN [⟨bstr n1, t1⟩, ⟨bstr n2, t2⟩] = fun b => if b = n1 then 1 else if b = n2 then 2 else 0 := by
  funext b
  show (if sameS (bstr n1) (bstr b) = true then 1 else if findN [⟨bstr n2, t2⟩] b = 0 then 0 else findN [⟨bstr n2, t2⟩] b + 1) = _
  rw [sameS_bstr, findN_one]
  by_cases h : b = n1
  · simp [h]
  · by_cases h2 : b = n2 <;> simp [h, h2]
def awTx7 : ByteArray := ⟨#[96, 100, 101, 102, 105, 110, 101, 32, 87, 32, 56, 10, 97, 32, 96, 87, 32, 98, 10]⟩
def awF : List Fil := [⟨bstr [97], awTx7⟩]
set_option maxRecDepth 100000 in
theorem awOut : expandP (textsOf awF) (fun b => if b = [97] then 1 else 0) [97] = ([⟨[10, 97, 32], 1, 1, 12, false⟩, ⟨[56], 1, 2, 3, true⟩, ⟨[32, 98, 10], 1, 2, 5, false⟩], (0, 0, 0), 0) := by
  kernel_rfl
theorem textsOf_one (nm tx : ByteArray) (n : Nat) : textsOf [⟨nm, tx⟩] n = tx.data.toList ∨ textsOf [⟨nm, tx⟩] n = [] := by
  unfold textsOf
  match n - 1 with
  | 0 => exact .inl rfl
  | k + 1 => exact .inr rfl
theorem lexp_one {w : World} {v : Value} (nm : Bs) (tx : ByteArray) (hr : RO w v 2 1 (filCells [⟨bstr nm, tx⟩])) (hn : isName (bstr nm) = true) (hnl : nm.length ≤ 100) (htl : tx.size ≤ 600) (hMax : Max w) (hne : nm ≠ []) :
    Calls Tryd.prog 11 #[v, .string (bstr nm)] w (LeR w (expandP (textsOf [⟨bstr nm, tx⟩]) (fun b => if b = nm then 1 else 0) nm)) := by
  have hz : tx.data.toList.length ≤ 600 := by simpa using htl
  have h := lexp_any (fs := [⟨bstr nm, tx⟩]) hr (err_one _ _ hn (by omega)) (by simp) hMax (fun n => fil_all (p := fun f => f.name.size ≤ 32768) (fun f hf => by rw [List.mem_singleton] at hf; subst hf; show (bstr nm).size ≤ _; rw [bstr_size]; omega) (by decide) n) (fun n => fil_all (p := fun f => f.text.size ≤ 32768) (fun f hf => by rw [List.mem_singleton] at hf; subst hf; show tx.size ≤ _; omega) (by decide) n) nm
  rw [findN_one] at h
  exact h
set_option maxRecDepth 100000 in
set_option maxHeartbeats 8000000 in
theorem awake_pre {w : World} (hMax : Max w) : Calls Tryd.prog 4 #[] w fun e w' => e = .returned (.bool true) ∧ Below w.heap.size w w' := by
  have hb1 := Below.new w (.cells #[.string (bstr [97]), .string awTx7] 47)
  have HE := Lib.hid (lexp_one (w := w.alloc (.cells #[.string (bstr [97]), .string awTx7] 47)) (v := .slice (some ⟨w.heap.size, 0, none⟩) 1 1) [97] awTx7 (ro_one _ _ (Blk.new 47 _)) (by decide) (by decide) (by decide) (hMax.below hb1) (by decide))
  rw [show [⟨bstr [97], awTx7⟩] = awF from rfl, awOut] at HE
  have HB := Lib.hid hb1
  clear hMax hb1
  have hn97 : bstr [97] = ⟨#[97]⟩ := rfl
  rw [hn97] at HE HB
  unfold awTx7 at HE HB
  go_enter Tryd.func4, Tryd.ntmps4
  go_wp2_with fail
  refine HE.out.mono ?_; rintro e w1 ⟨v, rfl, ho, hb⟩
  obtain ⟨g, cap, rfl, _⟩ := ho.form (by decide)
  have c0 := ho.cellAt 0 (by decide)
  have c5 := ho.cellAt 5 (by decide)
  have c6 := ho.cellAt 6 (by decide)
  have c7 := ho.cellAt 7 (by decide)
  have c8 := ho.cellAt 8 (by decide)
  have c9 := ho.cellAt 9 (by decide)
  have HB1 := Lib.hid (Below.next HB.out hb)
  clear ho hb
  simp only [outCells, pcCells, List.flatMap_cons, List.flatMap_nil, List.cons_append, List.nil_append, List.getElem?_cons_zero, List.getElem?_cons_succ] at c0 c5 c6 c7 c8 c9
  have ht0 := bstr_toList [10, 97, 32]
  have ht5 := bstr_toList [56]
  go_wp2_with fail
  go_ret
  exact ⟨rfl, HB1.out⟩
/-! # Few -/
def cut7 (t : ByteArray) : ByteArray := if 600 < t.size then t.extract 0 600 else t
theorem cut7_size (t : ByteArray) : (cut7 t).size ≤ 600 := by
  unfold cut7
  split
  · rw [ByteArray.size_extract]; omega
  · omega
def few7 (fs : List Fil) : List Fil := (fs.take 5).map fun f => ⟨f.name, cut7 f.text⟩
theorem few7_len (fs : List Fil) : (few7 fs).length ≤ 5 := by simp [few7]; omega
theorem few7_snoc (fs : List Fil) (k : Nat) (hk : k < fs.length) (h5 : k < 5) : few7 (fs.take (k + 1)) = few7 (fs.take k) ++ [⟨(fs.getD k default).name, cut7 (fs.getD k default).text⟩] := by
  unfold few7
  rw [List.take_take, List.take_take, Nat.min_eq_right (by omega), Nat.min_eq_right (by omega), List.take_succ_eq_append_getElem hk, List.map_append, List.getD, List.getElem?_eq_getElem hk]
  rfl
theorem few7_take (fs : List Fil) (k : Nat) (h : fs.length ≤ k ∨ 5 ≤ k) : few7 (fs.take k) = few7 fs := by
  rcases h with h | h
  · rw [List.take_of_length_le h]
  · unfold few7
    rw [List.take_take, Nat.min_eq_left h]
theorem few7_sizes (fs : List Fil) (n : Nat) : ((few7 fs).getD n default).text.size ≤ 32768 :=
  fil_all (p := fun f => f.text.size ≤ 32768) (fun f hf => by
    obtain ⟨g, _, rfl⟩ := List.mem_map.1 hf
    show (cut7 g.text).size ≤ _
    have := cut7_size g.text; omega) (by decide) n
theorem few7_names (fs : List Fil) (h : ∀ f ∈ fs, f.name.size ≤ maxLen) : ∀ f ∈ few7 fs, f.name.size ≤ maxLen := fun f hf => by
  obtain ⟨g, hg, rfl⟩ := List.mem_map.1 hf
  exact h g (List.mem_of_mem_take hg)
theorem TF7 : SlTy Tryd.prog 22 47 2 32 (.agg #[.string ⟨#[]⟩, .string ⟨#[]⟩]) := SlTy.of Tryd.underlying22 (by kernel_rfl) rfl (by decide)
set_option maxRecDepth 100000 in
set_option maxHeartbeats 4000000 in
theorem few7_any {w : World} (v : Value) (fs : List Fil) (hr : RO w v 2 fs.length (filCells fs)) (hl : fs.length ≤ 9223372036854775807) : Calls Tryd.prog 5 #[v] w fun e w' => ∃ v', e = .returned v' ∧ RO w' v' 2 (few7 fs).length (filCells (few7 fs)) ∧ Below w.heap.size w w' := by
  obtain ⟨p, c, rfl⟩ := hr.form
  obtain ⟨n, hn⟩ : ∃ n, fs.length = n := ⟨_, rfl⟩
  rw [hn] at hr hl ⊢
  have hl' : (n : Int) ≤ 9223372036854775807 := by omega
  have H := Lib.hid hr
  have HN := Lib.hid hn
  clear hr hl hn
  go_enter Tryd.func5, Tryd.ntmps5
  go_wp2_with fail
  generalize hB : w.heap.size = B at *
  have HBB := Lib.hid hB
  clear hB
  go_loopw [3, 4] (fun v i wr => ∃ k : Nat, k ≤ n ∧ k ≤ 5 ∧ i = .int .i64 k ∧ wr.ownsRow B 47 2 v k (filCells (few7 (fs.take k))) ∧ Below B w wr) (fun _ i _ => 5 - (intOf i).toNat)
  case atStart => exact ⟨0, Nat.zero_le _, Nat.zero_le _, rfl, World.ownsRow_nil _ _ _ _, Below.refl _ _⟩
  case round =>
    obtain ⟨k, hk, hk5, rfl, hown, hbel⟩ := hrel
    obtain ⟨pq, cq, e⟩ := ownsRow_form hown
    subst e
    have hBw : B ≤ wr.heap.size := HBB.out ▸ hbel.size
    by_cases hlt : k < n
    · by_cases h5 : k < 5
      · have hro := H.out.below (HBB.out ▸ hbel)
        have hlf : k < fs.length := by rw [HN.out]; exact hlt
        obtain ⟨bb, o, rfl⟩ := hro.sl (fils_at fs k hlf).1
        have f0 := hro.cell (fils_at fs k hlf).1
        have f1 := hro.cell (fils_at fs k hlf).2
        rw [← Nat.add_assoc] at f1
        have htk : filCells (few7 (fs.take (k + 1))) = filCells (few7 (fs.take k)) ++ [.string (fs.getD k default).name, .string (cut7 (fs.getD k default).text)] := by
          rw [few7_snoc fs k hlf h5]
          simp only [filCells, List.flatMap_append, List.flatMap_cons, List.flatMap_nil, List.append_nil]
        generalize fs.getD k default = P at *
        obtain ⟨nm, tx⟩ := P
        dsimp only at f0 f1 htk
        have hki : (k : Int) < n := by omega
        have hk0 : (0 : Int) ≤ k := by omega
        have hk5i : (k : Int) < 5 := by omega
        have hkw : IntKind.i64.wrap ((k : Int) + 1) = (k : Int) + 1 := i64_of (by omega)
        have HX := Lib.hid (And.intro hlt h5)
        have hk1 := Blk.new (w := wr) 47 [.string nm, .string tx]
        have hb1 := Below.new wr (.cells #[.string nm, .string tx] 47)
        have hne : ∀ g, (Value.slice pq k cq).ownBlock = some g → g < wr.heap.size := fun g hg => by
          rcases hown.2 with ⟨e, _⟩ | ⟨g', cap, cur, e, h1, h2, _⟩
          · rw [e] at hg; cases hg
          · rw [e] at hg; cases hg; exact some_lt h2
        have ho1 := hown.alloc (.cells #[.string nm, .string tx] 47)
        have hB1 : Below B w _ := hbel.trans (hb1.mono hBw)
        have HOW := Lib.hid (And.intro hown hbel)
        have HC0 : Hid (∀ g, (Value.slice pq k cq).ownBlock = some g → B ≤ g) := Lib.hid fun g hg => by
          rcases hown.2 with ⟨e, _⟩ | ⟨g', cap, cur, e, h1, h2, _⟩
          · rw [e] at hg; cases hg
          · rw [e] at hg; cases hg; exact h1
        have HR := Lib.hid (And.intro ho1 (And.intro hB1 (And.intro htk (And.intro hk1 (And.intro hBw hne)))))
        clear ho1 hB1 htk hk1 hb1 hne hown hbel hro hlf hlt h5 hk hk5
        by_cases h6 : 600 < tx.size
        · have h6i : (600 : Int) < tx.size := by omega
          have hcut : cut7 tx = tx.extract 0 600 := if_pos h6
          have d0 := HR.out.2.2.2.1.cell (i := 0) rfl
          have d1 := HR.out.2.2.2.1.cell (i := 1) rfl
          have g1 := HR.out.2.2.2.1.frz 1
          have hbc := Below.new wr (.cells #[.string nm, .string (tx.extract 0 600)] 47)
          have HC := Lib.hid (And.intro hcut (And.intro (Blk.new (w := wr) 47 [.string nm, .string (tx.extract 0 600)]) (And.intro (HOW.out.2.trans (hbc.mono HR.out.2.2.2.2.1)) (HOW.out.1.alloc (.cells #[.string nm, .string (tx.extract 0 600)] 47)))))
          clear hcut h6 hbc
          go_upto_region 8 with fail
          generalize wr.heap.size = bx at *
          generalize tx.extract 0 600 = CT at *
          generalize hW2 : wr.alloc (.cells #[.string nm, .string CT] 47) = W2 at *
          clear hW2
          clear d0 d1 g1
          have d0 := HC.out.2.1.cell (i := 0) rfl
          have d1 := HC.out.2.1.cell (i := 1) rfl
          have hbx3 := Below.new W2 (.cells #[.string nm, .string CT] 47)
          have hk3 := Blk.new (w := W2) 47 [.string nm, .string CT]
          have hsz2 := (HC.out.2.2.1).size
          rw [HBB.out] at hsz2
          have HA := Lib.hid (And.intro (HC.out.2.2.2.alloc (.cells #[.string nm, .string CT] 47)) (And.intro (RO.own (hk3.own (n := 1) (size := 2) rfl (by decide) 0 (Nat.zero_le _))) (And.intro (HC.out.2.2.1.trans (hbx3.mono hsz2)) (Nat.le_trans hsz2 hbx3.size))))
          clear hbx3 hk3 hsz2
          go_wp2_with (at_builtin; refine wpList_appR rfl _ _ 22 rfl TF7 B (.slice pq k cq) k _ rfl HA.out.1 _ 1 _ rfl HA.out.2.1 (by simp [Value.oneCell']) (by omega) (by omega) HA.out.2.2.2 ?_; intro v4 w4 happ; obtain ⟨p6, c6', ev4⟩ := ownsRow_form happ.own; subst ev4; have HP := Lib.hid happ; clear happ)
          go_roundw
          case rel =>
            refine ⟨k + 1, HX.out.1, HX.out.2, by go_num, ?_, HP.out.below HA.out.2.2.1 HA.out.2.2.2 (fun g hg => HC0.out g hg)⟩
            rw [HR.out.2.2.1, HC.out.1]
            exact HP.out.own
          case measure => have := HX.out.2; simp [intOf]; omega
        · have h6i : ¬ (600 : Int) < tx.size := by omega
          have hcut : cut7 tx = tx := if_neg h6
          have HC := Lib.hid (And.intro hcut (And.intro HR.out.2.2.2.1 (And.intro HR.out.2.1 HR.out.1)))
          have d0 := HC.out.2.1.cell (i := 0) rfl
          have d1 := HC.out.2.1.cell (i := 1) rfl
          clear hcut h6
          go_upto_region 8 with fail
          generalize wr.heap.size = bx at *
          obtain ⟨CT, hCT⟩ : ∃ CT, tx = CT := ⟨_, rfl⟩
          subst hCT
          generalize hW2 : wr.alloc (.cells #[.string nm, .string tx] 47) = W2 at *
          clear hW2
          have hbx3 := Below.new W2 (.cells #[.string nm, .string tx] 47)
          have hk3 := Blk.new (w := W2) 47 [.string nm, .string tx]
          have hsz2 := (HC.out.2.2.1).size
          rw [HBB.out] at hsz2
          have HA := Lib.hid (And.intro (HC.out.2.2.2.alloc (.cells #[.string nm, .string tx] 47)) (And.intro (RO.own (hk3.own (n := 1) (size := 2) rfl (by decide) 0 (Nat.zero_le _))) (And.intro (HC.out.2.2.1.trans (hbx3.mono hsz2)) (Nat.le_trans hsz2 hbx3.size))))
          clear hbx3 hk3 hsz2
          go_wp2_with (at_builtin; refine wpList_appR rfl _ _ 22 rfl TF7 B (.slice pq k cq) k _ rfl HA.out.1 _ 1 _ rfl HA.out.2.1 (by simp [Value.oneCell']) (by omega) (by omega) HA.out.2.2.2 ?_; intro v4 w4 happ; obtain ⟨p6, c6', ev4⟩ := ownsRow_form happ.own; subst ev4; have HP := Lib.hid happ; clear happ)
          go_roundw
          case rel =>
            refine ⟨k + 1, HX.out.1, HX.out.2, by go_num, ?_, HP.out.below HA.out.2.2.1 HA.out.2.2.2 (fun g hg => HC0.out g hg)⟩
            rw [HR.out.2.2.1, HC.out.1]
            exact HP.out.own
          case measure => have := HX.out.2; simp [intOf]; omega
      · have hk5i : ¬ (k : Int) < 5 := by omega
        have hki : (k : Int) < n := by omega
        have hro := RO.own hown
        have e : few7 (fs.take k) = few7 fs := few7_take fs k (by have := HN.out; omega)
        rw [e] at hro
        have hlen : (few7 fs).length = k := by
          have h1 := hro.1
          have h2 : (filCells (few7 fs)).length = (few7 fs).length * 2 := flatMap_len _ 2 (fun _ => rfl) _
          omega
        have HF := Lib.hid (And.intro hro (And.intro hbel hlen))
        clear hro e hlen hown hbel
        clear hlt h5
        go_wp2_with fail
        go_ret
        exact ⟨_, rfl, by rw [HF.out.2.2]; exact HF.out.1, HBB.out ▸ HF.out.2.1⟩
    · have hki : ¬ (k : Int) < n := by omega
      have hro := RO.own hown
      have e : few7 (fs.take k) = few7 fs := few7_take fs k (by have := HN.out; omega)
      rw [e] at hro
      have hlen : (few7 fs).length = k := by
        have h1 := hro.1
        have h2 : (filCells (few7 fs)).length = (few7 fs).length * 2 := flatMap_len _ 2 (fun _ => rfl) _
        omega
      have HF := Lib.hid (And.intro hro (And.intro hbel hlen))
      clear hro e hlen hown hbel
      clear hlt
      go_wp2_with fail
      go_ret
      exact ⟨_, rfl, by rw [HF.out.2.2]; exact HF.out.1, HBB.out ▸ HF.out.2.1⟩
end Go.Proofs.YtcjfelndnnhgjaaDoor
