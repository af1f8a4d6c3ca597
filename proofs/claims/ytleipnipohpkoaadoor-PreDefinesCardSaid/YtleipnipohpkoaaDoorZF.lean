/- Texts of this claim, one behind another: E25, E26. They state lemmas; each names its own conditions. -/
import Derived.Test.YtleipnipohpkoaaDoorZD
import Derived.Test.YtleipnipohpkoaaDoorZ3
namespace Go.Proofs.YtleipnipohpkoaaDoor
set_option linter.unusedVariables false
open Go.RowKit Go.Maps

theorem wx0 : WX x0 := ⟨fun _ => Nat.le_refl _, fun i => by simp [x0], by simp [x0], fun _ => ⟨by simp [x0], by simp [x0], fun i hi => by simp [x0] at hi⟩⟩
/-- what Expand hands back -/
def ExR (w : World) (R : List Pc × (Int × Int × Int) × Int) (e : Ending) (w' : World) : Prop :=
  ∃ v, e = .returned (.tuple #[v, .agg #[.int .i64 R.2.1.1, .int .i64 R.2.1.2.1, .int .i64 R.2.1.2.2], .int .i64 R.2.2]) ∧ w'.ownsRow w.heap.size 33 5 v R.1.length (outCells R.1) ∧ Below w.heap.size w w'
set_option maxRecDepth 100000 in
set_option maxHeartbeats 8000000 in
theorem expand_pre {w : World} {bt : Nat} {ps : List Part} {fs : List Fil} (hM : Made w bt ps fs) (hl : fs.length ≤ 100000) (hMax : Max w) (htl : ∀ n, (fs.getD n default).text.size ≤ 32768) (top : Bs) (hbud : cFile (textsOf fs) (findN fs) 8 (findN fs top) ≤ bigN) :
    Calls Tryd.prog 15 #[.pointer (some ⟨bt, 0, none⟩), .string (bstr top)] w (ExR w (expandP (textsOf fs) (findN fs) top)) := by
  obtain ⟨R, hR⟩ : ∃ R, expandP (textsOf fs) (findN fs) top = R := ⟨_, rfl⟩
  rw [hR]
  unfold expandP at hR
  obtain ⟨K, hK⟩ : ∃ K, findN fs top = K := ⟨_, rfl⟩
  have hKl : K ≤ fs.length := by rw [← hK]; exact findN_le fs top
  rw [hK] at hR hbud
  obtain ⟨TP, hTP⟩ : ∃ TP, bstr top = TP := ⟨_, rfl⟩
  have hFd := fun W' (hb : Below w.heap.size w W') => findn_any (hM.below hb) hl top
  rw [hK, hTP] at hFd
  have hFa := fun (W' : World) (F : Nat → Prop) (bx : Nat) (hx : HasX w.heap.size bx (.pointer (some ⟨bt, 0, none⟩)) F W' x0) (hb : Below w.heap.size w W') (h1 : 1 ≤ K) => file_any hM hl hMax htl 8 (Nat.le_refl _) W' F x0 K 0 0 0 hx wx0 hb rfl rfl h1 hKl (by show 0 + _ ≤ _; omega)
  rw [hTP]
  have HFd := Lib.hid hFd
  have HFa := Lib.hid hFa
  have HR := Lib.hid hR
  clear hM hl hMax htl hbud hR hK hKl hTP hFd hFa
  have hmm := @run_makeMap Tryd.prog
  go_enter Tryd.func15, Tryd.ntmps15
  go_wp2_with fail
  have hbA := Below.new w (.cells #[.int .i64 0, .int .i64 0, .int .i64 0] 31)
  have kA : Blk (w.alloc (.cells #[.int .i64 0, .int .i64 0, .int .i64 0] 31)) w.heap.size 31 [.int .i64 0, .int .i64 0, .int .i64 0] := Blk.new _ _
  have hsA : (w.alloc (.cells #[.int .i64 0, .int .i64 0, .int .i64 0] 31)).heap.size = w.heap.size + 1 := World.size_alloc _ _
  have hmA : MapIs ((w.alloc (.cells #[.int .i64 0, .int .i64 0, .int .i64 0] 31)).alloc (.map #[] 0)) (w.alloc (.cells #[.int .i64 0, .int .i64 0, .int .i64 0] 31)).heap.size 0 (.map []) := World.ownsMap_made _ _ _ _
  rw [hsA] at hmA
  generalize w.alloc (.cells #[.int .i64 0, .int .i64 0, .int .i64 0] 31) = wA at *
  have hbB := Below.next hbA (Below.new wA (.map #[] 0))
  have kB := kA.next (Below.new wA (.map #[] 0))
  have hsB : (wA.alloc (.map #[] 0)).heap.size = wA.heap.size + 1 := World.size_alloc _ _
  rw [hsA] at hsB
  generalize wA.alloc (.map #[] 0) = wB at *
  have hbC := Below.next hbB (Below.new wB (.cells #[.pointer (some ⟨bt, 0, none⟩), .map (some (w.heap.size + 1)), .slice none 0 0, .slice none 0 0, .int .i64 0, .int .i64 0, .int .i64 0, .int .i64 0, .int .i64 0, .int .i64 0] 74))
  have kC := kB.next (Below.new wB (.cells #[.pointer (some ⟨bt, 0, none⟩), .map (some (w.heap.size + 1)), .slice none 0 0, .slice none 0 0, .int .i64 0, .int .i64 0, .int .i64 0, .int .i64 0, .int .i64 0, .int .i64 0] 74))
  have kX : Blk (wB.alloc (.cells #[.pointer (some ⟨bt, 0, none⟩), .map (some (w.heap.size + 1)), .slice none 0 0, .slice none 0 0, .int .i64 0, .int .i64 0, .int .i64 0, .int .i64 0, .int .i64 0, .int .i64 0] 74)) wB.heap.size 74 (xCells (.pointer (some ⟨bt, 0, none⟩)) (w.heap.size + 1) (.slice none 0 0) (.slice none 0 0) x0) := Blk.new _ _
  have hmC : MapIs (wB.alloc (.cells #[.pointer (some ⟨bt, 0, none⟩), .map (some (w.heap.size + 1)), .slice none 0 0, .slice none 0 0, .int .i64 0, .int .i64 0, .int .i64 0, .int .i64 0, .int .i64 0, .int .i64 0] 74)) (w.heap.size + 1) 0 (.map []) := ownsMap_keep hmA ((Below.new wB _).block _ (by omega))
  rw [hsB] at kX
  generalize wB.alloc (.cells #[.pointer (some ⟨bt, 0, none⟩), .map (some (w.heap.size + 1)), .slice none 0 0, .slice none 0 0, .int .i64 0, .int .i64 0, .int .i64 0, .int .i64 0, .int .i64 0, .int .i64 0] 74) = wC at *
  have hxat : XAt w.heap.size (w.heap.size + 1 + 1) (w.heap.size + 1) (.pointer (some ⟨bt, 0, none⟩)) wC x0 (.slice none 0 0) (.slice none 0 0) 0 (.map []) :=
    ⟨kX, World.ownsRow_nil _ _ _ _, World.ownsRow_nil _ _ _ _, hmC, fun n => rfl, Nat.le_refl _, by simp [Value.ownBlock], by simp [Value.ownBlock], by simp [Value.ownBlock], by simp [Value.ownBlock], fun g hg => by simp [Value.ownBlock] at hg, by omega, by omega, by omega⟩
  obtain ⟨F, hFe⟩ : ∃ F, xFoot (w.heap.size + 1 + 1) (w.heap.size + 1) (.slice none 0 0) (.slice none 0 0) = F := ⟨_, rfl⟩
  have hnF : ¬ F w.heap.size := by
    rw [← hFe]
    rintro (h | h | h | h)
    · omega
    · omega
    · cases h
    · cases h
  have hhx : HasX w.heap.size (w.heap.size + 1 + 1) (.pointer (some ⟨bt, 0, none⟩)) F wC x0 := ⟨_, _, _, _, _, hxat, hFe.symm⟩
  have HC := Lib.hid (And.intro hhx (And.intro hbC (And.intro kC hnF)))
  obtain ⟨be, hbe⟩ : ∃ be, w.heap.size = be := ⟨_, rfl⟩
  clear hbA kA hsA hmA hbB kB hsB hbC kC kX hmC hxat hFe hnF hhx hmm
  refine (HFd.out wC HC.out.2.1).mono ?_; rintro e wD ⟨rfl, hbD⟩
  have HD := Lib.hid (And.intro (HC.out.1.below hbD) (And.intro (Below.next HC.out.2.1 hbD) (HC.out.2.2.1.next hbD)))
  have HBe := Lib.hid hbe
  clear hbD hbe
  by_cases hK0 : K = 0
  · subst hK0
    have hRe : R = ([], (0, 0, 0), 9) := by rw [← HR.out, if_pos rfl]
    have k4 := HD.out.2.2
    rw [HBe.out] at k4
    have f0 := k4.frz 0
    have f1 := k4.frz 1
    have f2 := k4.frz 2
    have t0 := k4.cell (i := 0) rfl
    have t1 := k4.cell (i := 1) rfl
    have t2 := k4.cell (i := 2) rfl
    have HRe := Lib.hid hRe
    clear hRe k4
    rw [HBe.out]
    go_wp2_with fail
    have k5 := HD.out.2.2
    rw [HBe.out] at k5
    have hk := ((k5.set 0 (.int .i64 0)).set 1 (.int .i64 0)).set 2 (.int .i64 0)
    have hbl := (((HD.out.2.1).setCell (p := ⟨be, 0, none⟩) (show w.heap.size ≤ be from Nat.le_of_eq HBe.out) (.int .i64 0)).setCell (p := ⟨be, 1, none⟩) (show w.heap.size ≤ be from Nat.le_of_eq HBe.out) (.int .i64 0)).setCell (p := ⟨be, 2, none⟩) (show w.heap.size ≤ be from Nat.le_of_eq HBe.out) (.int .i64 0)
    have e0 := hk.cell (i := 0) rfl
    have e1 := hk.cell (i := 1) rfl
    have e2 := hk.cell (i := 2) rfl
    exact bodyPost_ret (v := .tuple #[.slice none 0 0, .agg #[.int .i64 0, .int .i64 0, .int .i64 0], .int .i64 9]) (by simp [results, Tryd.results15, go_sem, e0, e1, e2]) rfl ⟨.slice none 0 0, by rw [HRe.out], by rw [HRe.out]; exact World.ownsRow_nil _ _ _ _, hbl⟩
  · have hKz : ((K : Int) == 0) = false := by simp [hK0]
    have hK1 := Lib.hid (show 1 ≤ K by omega)
    have hRe := HR.out
    rw [if_neg hK0] at hRe
    have HRe := Lib.hid hRe
    clear hRe hK0
    go_wp2_with fail
    refine (HFa.out wD F _ HD.out.1 HD.out.2.1 hK1.out).mono ?_; rintro e wE ⟨FE, rfl, hxE, huE⟩
    obtain ⟨S', hS'⟩ : ∃ S', fileP (textsOf fs) (findN fs) 8 x0 K 0 0 0 = S' := ⟨_, rfl⟩
    rw [hS'] at hxE
    have hRf := HRe.out
    rw [hS'] at hRf
    obtain ⟨kE, hnE⟩ := huE.keepBlk HD.out.2.2 HC.out.2.2.2
    have hbE : Below w.heap.size w wE := (HD.out.2.1).trans (huE.low (fun g hg => (HD.out.1.lt g hg).1) HD.out.2.1.size)
    rw [HBe.out] at kE hnE
    obtain ⟨bm, vt, vo, k, D, hxa, hFE⟩ := hxE
    rw [HBe.out] at hxa
    have x9 := hxa.blk.cell (i := 9) rfl
    have x6 := hxa.blk.cell (i := 6) rfl
    have x7 := hxa.blk.cell (i := 7) rfl
    have x8 := hxa.blk.cell (i := 8) rfl
    have x3 := hxa.blk.cell (i := 3) rfl
    have f0 := kE.frz 0
    have f1 := kE.frz 1
    have f2 := kE.frz 2
    have t0 := kE.cell (i := 0) rfl
    have t1 := kE.cell (i := 1) rfl
    have t2 := kE.cell (i := 2) rfl
    have hvo : vo.ownBlock ≠ some be := fun e => hnE (by rw [hFE, HBe.out]; exact .inr (.inr (.inr e)))
    have hbx : be ≠ be + 1 + 1 := by omega
    have HE := Lib.hid (And.intro hxa (And.intro kE (And.intro hvo (And.intro hbE (And.intro hRf hbx)))))
    clear huE hS' hRf kE hnE hbE hxa hFE hvo hbx
    rw [HBe.out]
    by_cases he : S'.err = 0
    · rw [he] at x9
      have HEr := Lib.hid he
      clear he x6 x7 x8
      go_wp2_with fail
      have hk := ((HE.out.2.1.set 0 (.int .i64 0)).set 1 (.int .i64 0)).set 2 (.int .i64 0)
      have hbl := (((HE.out.2.2.2.1).setCell (p := ⟨be, 0, none⟩) (show w.heap.size ≤ be from Nat.le_of_eq HBe.out) (.int .i64 0)).setCell (p := ⟨be, 1, none⟩) (show w.heap.size ≤ be from Nat.le_of_eq HBe.out) (.int .i64 0)).setCell (p := ⟨be, 2, none⟩) (show w.heap.size ≤ be from Nat.le_of_eq HBe.out) (.int .i64 0)
      have hot : ∀ i (u : Value) (W : World), W.ownsRow be 33 5 vo S'.out.length (outCells S'.out) → (W.setCell ⟨be, i, none⟩ u).ownsRow be 33 5 vo S'.out.length (outCells S'.out) := fun i u W h => ownsRow_setCell_far h HE.out.2.2.1 u
      have hrow := hot 2 (.int .i64 0) _ (hot 1 (.int .i64 0) _ (hot 0 (.int .i64 0) _ HE.out.1.ot))
      have e0 := hk.cell (i := 0) rfl
      have e1 := hk.cell (i := 1) rfl
      have e2 := hk.cell (i := 2) rfl
      have hRq := HE.out.2.2.2.2.1
      rw [if_neg (by rw [HEr.out]; simp)] at hRq
      exact bodyPost_ret (v := .tuple #[vo, .agg #[.int .i64 0, .int .i64 0, .int .i64 0], .int .i64 0]) (by simp [results, Tryd.results15, go_sem, e0, e1, e2]) rfl ⟨vo, by rw [← hRq], by rw [← hRq, HBe.out]; exact hrow, hbl⟩
    · have heb : (S'.err == 0) = false := by simp [he]
      have HEr := Lib.hid he
      clear he x3
      go_upto_region 7 with fail
      have s0 : wE.drew.cell? ⟨be + 1 + 1, 6, none⟩ = some (.int .i64 S'.f) ∧ wE.drew.cell? ⟨be + 1 + 1, 7, none⟩ = some (.int .i64 S'.l) ∧ wE.drew.cell? ⟨be + 1 + 1, 8, none⟩ = some (.int .i64 S'.c) ∧ wE.drew.cell? ⟨be + 1 + 1, 9, none⟩ = some (.int .i64 S'.err) := ⟨x6, x7, x8, x9⟩
      have s1 : ∀ u0 u1 u2, (((wE.drew.setCell ⟨be, 0, none⟩ u0).setCell ⟨be, 1, none⟩ u1).setCell ⟨be, 2, none⟩ u2).cell? ⟨be + 1 + 1, 6, none⟩ = some (.int .i64 S'.f) ∧ (((wE.drew.setCell ⟨be, 0, none⟩ u0).setCell ⟨be, 1, none⟩ u1).setCell ⟨be, 2, none⟩ u2).cell? ⟨be + 1 + 1, 7, none⟩ = some (.int .i64 S'.l) ∧ (((wE.drew.setCell ⟨be, 0, none⟩ u0).setCell ⟨be, 1, none⟩ u1).setCell ⟨be, 2, none⟩ u2).cell? ⟨be + 1 + 1, 8, none⟩ = some (.int .i64 S'.c) ∧ (((wE.drew.setCell ⟨be, 0, none⟩ u0).setCell ⟨be, 1, none⟩ u1).setCell ⟨be, 2, none⟩ u2).cell? ⟨be + 1 + 1, 9, none⟩ = some (.int .i64 S'.err) := by
        intro u0 u1 u2
        have hf : ∀ (W : World) (i j : Nat) (u : Value), (W.setCell ⟨be, i, none⟩ u).cell? ⟨be + 1 + 1, j, none⟩ = W.cell? ⟨be + 1 + 1, j, none⟩ := fun W i j u => World.cell?_setCell_far _ _ _ _ (by simp; omega)
        simp only [hf]
        exact s0
      have f0' : wE.drew.frozen? ⟨be, 0, none⟩ = false := f0
      have f1' : wE.drew.frozen? ⟨be, 1, none⟩ = false := f1
      have f2' : wE.drew.frozen? ⟨be, 2, none⟩ = false := f2
      have t0' : wE.drew.cell? ⟨be, 0, none⟩ = some (.int .i64 0) := t0
      have t1' : wE.drew.cell? ⟨be, 1, none⟩ = some (.int .i64 0) := t1
      have t2' : wE.drew.cell? ⟨be, 2, none⟩ = some (.int .i64 0) := t2
      have HE' := Lib.hid (And.intro (HE.out.2.1.next (Below.refl _ _).drew) (Below.next HE.out.2.2.2.1 (Below.refl _ _).drew))
      clear x6 x7 x8 x9
      refine wp_region_held_drew (S := fun w' => w'.cell? ⟨be + 1 + 1, 6, none⟩ = some (.int .i64 S'.f) ∧ w'.cell? ⟨be + 1 + 1, 7, none⟩ = some (.int .i64 S'.l) ∧ w'.cell? ⟨be + 1 + 1, 8, none⟩ = some (.int .i64 S'.c) ∧ w'.cell? ⟨be + 1 + 1, 9, none⟩ = some (.int .i64 S'.err)) (by kernel_rfl) s0 (fun hHeld => ?_)
      refine held_take (i := 0) (v := ?_) rfl (by kernel_rfl) (by kernel_rfl) (by kernel_rfl) (fun _ _ _ h => h) (Or.inl ⟨by rfl, ?_⟩) hHeld ?_
      rotate_left
      · intro w hSw; obtain ⟨hS1, hS2, hS3, hS4⟩ := hSw; go_simp; (try with_reducible rfl)
      try simp only [Act.put, List.setIfInBounds_toArray, List.set_cons_zero, List.set_cons_succ]
      refine held_take (i := 1) (v := ?_) rfl (by kernel_rfl) (by kernel_rfl) (by kernel_rfl) (fun _ _ _ h => h) (Or.inl ⟨by rfl, ?_⟩) hHeld ?_
      rotate_left
      · intro w hSw; obtain ⟨hS1, hS2, hS3, hS4⟩ := hSw; go_simp; (try with_reducible rfl)
      try simp only [Act.put, List.setIfInBounds_toArray, List.set_cons_zero, List.set_cons_succ]
      refine held_take (i := 2) (v := ?_) rfl (by kernel_rfl) (by kernel_rfl) (by kernel_rfl) (fun _ _ _ h => h) (Or.inl ⟨by rfl, ?_⟩) hHeld ?_
      rotate_left
      · intro w hSw; obtain ⟨hS1, hS2, hS3, hS4⟩ := hSw; go_simp; (try with_reducible rfl)
      try simp only [Act.put, List.setIfInBounds_toArray, List.set_cons_zero, List.set_cons_succ]
      refine held_take (i := 3) (v := ?_) rfl (by kernel_rfl) (by kernel_rfl) (by kernel_rfl) (fun _ _ _ h => h) (Or.inl ⟨by rfl, ?_⟩) hHeld ?_
      rotate_left
      · intro w hSw; obtain ⟨hS1, hS2, hS3, hS4⟩ := hSw; go_simp; (try with_reducible rfl)
      try simp only [Act.put, List.setIfInBounds_toArray, List.set_cons_zero, List.set_cons_succ]
      refine held_take (i := 4) (v := ?_) rfl (by kernel_rfl) (by kernel_rfl) (by kernel_rfl) (fun _ _ _ h => h) (Or.inl ⟨by rfl, ?_⟩) hHeld ?_
      rotate_left
      · intro w hSw; obtain ⟨hS1, hS2, hS3, hS4⟩ := hSw; go_simp; (try with_reducible rfl)
      try simp only [Act.put, List.setIfInBounds_toArray, List.set_cons_zero, List.set_cons_succ]
      refine held_take (i := 5) (v := ?_) rfl (by kernel_rfl) (by kernel_rfl) (by kernel_rfl) (fun _ _ _ h => h) (Or.inl ⟨by rfl, ?_⟩) hHeld ?_
      rotate_left
      · intro w hSw; obtain ⟨hS1, hS2, hS3, hS4⟩ := hSw; go_simp; (try with_reducible rfl)
      try simp only [Act.put, List.setIfInBounds_toArray, List.set_cons_zero, List.set_cons_succ]
      refine held_take (i := 6) (v := ?_) rfl (by kernel_rfl) (by kernel_rfl) (by kernel_rfl) (fun _ _ _ h => h) (Or.inl ⟨by rfl, ?_⟩) hHeld ?_
      rotate_left
      · intro w hSw; obtain ⟨hS1, hS2, hS3, hS4⟩ := hSw; go_simp; (try with_reducible rfl)
      try simp only [Act.put, List.setIfInBounds_toArray, List.set_cons_zero, List.set_cons_succ]
      refine held_take (i := 7) (v := ?_) rfl (by kernel_rfl) (by kernel_rfl) (by kernel_rfl) (fun _ _ _ h => h) (Or.inl ⟨by rfl, ?_⟩) hHeld ?_
      rotate_left
      · intro w hSw; obtain ⟨hS1, hS2, hS3, hS4⟩ := hSw; go_simp; (try with_reducible rfl)
      try simp only [Act.put, List.setIfInBounds_toArray, List.set_cons_zero, List.set_cons_succ]
      refine held_take (i := 8) (v := ?_) rfl (by kernel_rfl) (by kernel_rfl) (by kernel_rfl) (fun _ _ _ h => h) (Or.inl ⟨by rfl, ?_⟩) hHeld ?_
      rotate_left
      · intro w hSw; obtain ⟨hS1, hS2, hS3, hS4⟩ := hSw; go_simp; (try with_reducible rfl)
      try simp only [Act.put, List.setIfInBounds_toArray, List.set_cons_zero, List.set_cons_succ]
      refine wpAnyH_ready (rs := [9]) (by kernel_rfl) (by simp) ?_
      refine held_cons rfl (fun K hK => ?_) AllReadyH.nil
      go_simp
      refine hK.out _ _ (s1 _ _ _) (fun hHeld => ?_)
      clear hK K
      try simp only [Act.put, List.setIfInBounds_toArray, List.set_cons_zero, List.set_cons_succ]
      refine held_take (i := 10) (v := ?_) rfl (by kernel_rfl) (by kernel_rfl) (by kernel_rfl) (fun _ _ _ h => h) (Or.inl ⟨by rfl, ?_⟩) hHeld ?_
      rotate_left
      · intro w hSw; obtain ⟨hS1, hS2, hS3, hS4⟩ := hSw; go_simp; (try with_reducible rfl)
      try simp only [Act.put, List.setIfInBounds_toArray, List.set_cons_zero, List.set_cons_succ]
      refine wpAnyH_done (by kernel_rfl) ?_ _
      go_wp2_with fail
      have hk := ((HE.out.2.1.set 0 (.int .i64 S'.f)).set 1 (.int .i64 S'.l)).set 2 (.int .i64 S'.c)
      have hbl := ((((HE.out.2.2.2.1).setCell (p := ⟨be, 0, none⟩) (show w.heap.size ≤ be from Nat.le_of_eq HBe.out) (.int .i64 S'.f)).setCell (p := ⟨be, 1, none⟩) (show w.heap.size ≤ be from Nat.le_of_eq HBe.out) (.int .i64 S'.l)).setCell (p := ⟨be, 2, none⟩) (show w.heap.size ≤ be from Nat.le_of_eq HBe.out) (.int .i64 S'.c)).drew
      have e0 := hk.cell (i := 0) rfl
      have e1 := hk.cell (i := 1) rfl
      have e2 := hk.cell (i := 2) rfl
      have hRq := HE.out.2.2.2.2.1
      rw [if_pos HEr.out] at hRq
      exact bodyPost_ret (v := .tuple #[.slice none 0 0, .agg #[.int .i64 S'.f, .int .i64 S'.l, .int .i64 S'.c], .int .i64 S'.err]) (by simp [results, Tryd.results15, go_sem, e0, e1, e2]) rfl ⟨.slice none 0 0, by rw [← hRq], by rw [← hRq]; exact World.ownsRow_nil _ _ _ _, hbl⟩
end Go.Proofs.YtleipnipohpkoaaDoor
namespace Go.Proofs.YtleipnipohpkoaaDoor
set_option linter.unusedVariables false
open Go.RowKit Go.Maps

/-- what the law's expand hands back -/
def LeR (w : World) (R : List Pc × (Int × Int × Int) × Int) (e : Ending) (w' : World) : Prop :=
  ∃ v, e = .returned (.tuple #[v, .int .i64 R.2.2]) ∧ w'.ownsRow w.heap.size 33 5 v R.1.length (outCells R.1) ∧ Below w.heap.size w w'
set_option maxRecDepth 100000 in
set_option maxHeartbeats 8000000 in
theorem lexp_any {w : World} {fs : List Fil} {v : Value} (hr : RO w v 2 fs.length (filCells fs)) (he : NewErr fs 0) (hl : fs.length ≤ 16) (hMax : Max w) (hnz : ∀ n, (fs.getD n default).name.size ≤ 32768) (htl : ∀ n, (fs.getD n default).text.size ≤ 32768) (top : Bs) (hbud : cFile (textsOf fs) (findN fs) 8 (findN fs top) ≤ bigN) :
    Calls Tryd.prog 8 #[v, .string (bstr top)] w (LeR w (expandP (textsOf fs) (findN fs) top)) := by
  obtain ⟨R, hR⟩ : ∃ R, expandP (textsOf fs) (findN fs) top = R := ⟨_, rfl⟩
  rw [hR]
  obtain ⟨TP, hTP⟩ : ∃ TP, bstr top = TP := ⟨_, rfl⟩
  have hF := files_any v fs hr (by omega)
  have hN := fun (W' : World) (v' : Value) (hr' : RO W' v' 2 fs.length (filCells fs)) => new_ok v' fs hr' he (fun i _ => Nat.le_trans (hnz i) (by decide)) (fun i _ => Nat.le_trans (htl i) (by decide))
  have hE := fun (W' : World) (bt : Nat) (ps : List Part) (hM : Made W' bt ps fs) (hx : Max W') => expand_pre hM (by omega) hx htl top hbud
  rw [hR, hTP] at hE
  rw [hTP]
  have HF := Lib.hid hF
  have HN := Lib.hid hN
  have HE := Lib.hid hE
  have HM := Lib.hid hMax
  obtain ⟨p, c, rfl⟩ := hr.form
  clear hr he hl hMax hnz htl hbud hF hN hE hR hTP
  go_enter Tryd.func8, Tryd.ntmps8
  go_wp2_with fail
  refine HF.out.mono ?_; rintro e w1 ⟨v1, rfl, hr1, hb1⟩
  have H1 := Lib.hid (And.intro hr1 hb1)
  clear hr1 hb1
  go_wp2_with fail
  refine (HN.out w1 v1 H1.out.1).mono ?_; rintro e w2 ⟨bt, ps, rfl, hM2, hfar, hb2⟩
  have H2 := Lib.hid (And.intro hM2 (Below.next H1.out.2 hb2))
  clear hM2 hfar hb2
  go_wp2_with fail
  refine (HE.out w2 bt ps H2.out.1 (HM.out.below H2.out.2)).mono ?_; rintro e w3 ⟨v3, rfl, ho3, hb3⟩
  have H3 := Lib.hid (And.intro ho3 (And.intro (Below.next H2.out.2 hb3) H2.out.2.size))
  clear ho3 hb3
  go_wp2_with fail
  go_ret2
  refine ⟨v3, rfl, ownsRow_mono ?_ H3.out.2.2, H3.out.2.1.alloc H3.out.2.1.size _⟩
  exact H3.out.1.alloc _
end Go.Proofs.YtleipnipohpkoaaDoor
