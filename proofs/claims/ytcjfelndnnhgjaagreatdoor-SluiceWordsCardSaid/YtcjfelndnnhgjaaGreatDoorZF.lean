/- Texts of this claim, one behind another: G25, X30. They state lemmas; each names its own conditions. -/
import Derived.Test.YtcjfelndnnhgjaaGreatDoorZD
import Derived.Lib.LaidTab
import Derived.LaidMore
import Derived.Carry
import Derived.SevenTiedAt
import Derived.Stop.Joined
import Derived.ProofKit
import Derived.OpenShut
import Derived.Lay
import Derived.Shelf.Vars
import Derived.HandedShaped
import Derived.ChangeMaps5
namespace Go.Proofs.YtcjfelndnnhgjaaGreatDoor
set_option linter.unusedVariables false
open Go.RowKit Go.Maps

theorem wx0 : WX x0 := ⟨fun _ => Nat.le_refl _, fun i => by simp [x0], by simp [x0], fun _ => ⟨by simp [x0], by simp [x0], fun i hi => by simp [x0] at hi⟩⟩
/-- what Expand hands back -/
def ExR (w : World) (R : List Pc × (Int × Int × Int) × Int) (e : Ending) (w' : World) : Prop :=
  ∃ v, e = .returned (.tuple #[v, .agg #[.int .i64 R.2.1.1, .int .i64 R.2.1.2.1, .int .i64 R.2.1.2.2], .int .i64 R.2.2]) ∧ w'.ownsRow w.heap.size 67 5 v R.1.length (outCells R.1) ∧ Below w.heap.size w w'
set_option maxRecDepth 100000 in
set_option maxHeartbeats 8000000 in
theorem expand_pre {w : World} {bt : Nat} {ps : List Part} {fs : List Fil} (hM : Made w bt ps fs) (hl : fs.length ≤ 100000) (hMax : Max w) (htl : ∀ n, (fs.getD n default).text.size ≤ 32768) (top : Bs) :
    Calls Tryz.prog 7 #[.pointer (some ⟨bt, 0, none⟩), .string (bstr top)] w (ExR w (expandP (textsOf fs) (findN fs) top)) := by
  obtain ⟨R, hR⟩ : ∃ R, expandP (textsOf fs) (findN fs) top = R := ⟨_, rfl⟩
  rw [hR]
  unfold expandP at hR
  obtain ⟨K, hK⟩ : ∃ K, findN fs top = K := ⟨_, rfl⟩
  have hKl : K ≤ fs.length := by rw [← hK]; exact findN_le fs top
  rw [hK] at hR
  obtain ⟨TP, hTP⟩ : ∃ TP, bstr top = TP := ⟨_, rfl⟩
  have hFd := fun W' (hb : Below w.heap.size w W') => findn_any (hM.below hb) hl top
  rw [hK, hTP] at hFd
  have hFa := fun (W' : World) (F : Nat → Prop) (bx : Nat) (hx : HasX w.heap.size bx (.pointer (some ⟨bt, 0, none⟩)) F W' x0) (hb : Below w.heap.size w W') (h1 : 1 ≤ K) => file_any hM hl hMax htl 8 (Nat.le_refl _) W' F x0 K 0 0 0 hx wx0 hb rfl rfl h1 hKl ⟨Nat.zero_le _, fun _ => Nat.zero_le _⟩
  rw [hTP]
  have HFd := Lib.hid hFd
  have HFa := Lib.hid hFa
  have HR := Lib.hid hR
  clear hM hl hMax htl hR hK hKl hTP hFd hFa
  have hmm := @run_makeMap Tryz.prog
  go_enter Tryz.func7, Tryz.ntmps7
  go_wp2_with fail
  have hbA := Below.new w (.cells #[.int .i64 0, .int .i64 0, .int .i64 0] 32)
  have kA : Blk (w.alloc (.cells #[.int .i64 0, .int .i64 0, .int .i64 0] 32)) w.heap.size 32 [.int .i64 0, .int .i64 0, .int .i64 0] := Blk.new _ _
  have hsA : (w.alloc (.cells #[.int .i64 0, .int .i64 0, .int .i64 0] 32)).heap.size = w.heap.size + 1 := World.size_alloc _ _
  have hmA : MapIs ((w.alloc (.cells #[.int .i64 0, .int .i64 0, .int .i64 0] 32)).alloc (.map #[] 0)) (w.alloc (.cells #[.int .i64 0, .int .i64 0, .int .i64 0] 32)).heap.size 0 (.map []) := World.ownsMap_made _ _ _ _
  rw [hsA] at hmA
  generalize w.alloc (.cells #[.int .i64 0, .int .i64 0, .int .i64 0] 32) = wA at *
  have hbB := Below.next hbA (Below.new wA (.map #[] 0))
  have kB := kA.next (Below.new wA (.map #[] 0))
  have hsB : (wA.alloc (.map #[] 0)).heap.size = wA.heap.size + 1 := World.size_alloc _ _
  rw [hsA] at hsB
  generalize wA.alloc (.map #[] 0) = wB at *
  have hbC := Below.next hbB (Below.new wB (.cells #[.pointer (some ⟨bt, 0, none⟩), .map (some (w.heap.size + 1)), .slice none 0 0, .slice none 0 0, .int .i64 0, .int .i64 0, .int .i64 0, .int .i64 0, .int .i64 0, .int .i64 0] 64))
  have kC := kB.next (Below.new wB (.cells #[.pointer (some ⟨bt, 0, none⟩), .map (some (w.heap.size + 1)), .slice none 0 0, .slice none 0 0, .int .i64 0, .int .i64 0, .int .i64 0, .int .i64 0, .int .i64 0, .int .i64 0] 64))
  have kX : Blk (wB.alloc (.cells #[.pointer (some ⟨bt, 0, none⟩), .map (some (w.heap.size + 1)), .slice none 0 0, .slice none 0 0, .int .i64 0, .int .i64 0, .int .i64 0, .int .i64 0, .int .i64 0, .int .i64 0] 64)) wB.heap.size 64 (xCells (.pointer (some ⟨bt, 0, none⟩)) (w.heap.size + 1) (.slice none 0 0) (.slice none 0 0) x0) := Blk.new _ _
  have hmC : MapIs (wB.alloc (.cells #[.pointer (some ⟨bt, 0, none⟩), .map (some (w.heap.size + 1)), .slice none 0 0, .slice none 0 0, .int .i64 0, .int .i64 0, .int .i64 0, .int .i64 0, .int .i64 0, .int .i64 0] 64)) (w.heap.size + 1) 0 (.map []) := ownsMap_keep hmA ((Below.new wB _).block _ (by omega))
  rw [hsB] at kX
  generalize wB.alloc (.cells #[.pointer (some ⟨bt, 0, none⟩), .map (some (w.heap.size + 1)), .slice none 0 0, .slice none 0 0, .int .i64 0, .int .i64 0, .int .i64 0, .int .i64 0, .int .i64 0, .int .i64 0] 64) = wC at *
  have hxat : XAt w.heap.size (w.heap.size + 1 + 1) (w.heap.size + 1) (.pointer (some ⟨bt, 0, none⟩)) wC x0 (.slice none 0 0) (.slice none 0 0) 0 (.map []) :=
    ⟨kX, World.ownsRow_nil _ _ _ _, World.ownsRow_nil _ _ _ _, hmC, fun n => rfl, Nat.le_refl _, by simp [Value.ownBlock], by simp [Value.ownBlock], by simp [Value.ownBlock], by simp [Value.ownBlock], fun g hg => by simp [Value.ownBlock] at hg, by omega, by omega, by omega⟩
  obtain ⟨F, hFe⟩ : ∃ F, xFoot (w.heap.size + 1 + 1) (w.heap.size + 1) (.slice none 0 0) (.slice none 0 0) = F := ⟨_, rfl⟩
  have hnF : ¬ F w.heap.size := by
    rw [← hFe]
    rintro (h | h | h | h)
    · omega
    · omega
    · cases h
    · cases h
  have hhx : HasX w.heap.size (w.heap.size + 1 + 1) (.pointer (some ⟨bt, 0, none⟩)) F wC x0 := ⟨_, _, _, _, _, hxat, hFe.symm⟩
  have HC := Lib.hid (And.intro hhx (And.intro hbC (And.intro kC hnF)))
  obtain ⟨be, hbe⟩ : ∃ be, w.heap.size = be := ⟨_, rfl⟩
  clear hbA kA hsA hmA hbB kB hsB hbC kC kX hmC hxat hFe hnF hhx hmm
  refine (HFd.out wC HC.out.2.1).mono ?_; rintro e wD ⟨rfl, hbD⟩
  have HD := Lib.hid (And.intro (HC.out.1.below hbD) (And.intro (Below.next HC.out.2.1 hbD) (HC.out.2.2.1.next hbD)))
  have HBe := Lib.hid hbe
  clear hbD hbe
  by_cases hK0 : K = 0
  · subst hK0
    have hRe : R = ([], (0, 0, 0), 9) := by rw [← HR.out, if_pos rfl]
    have k4 := HD.out.2.2
    rw [HBe.out] at k4
    have f0 := k4.frz 0
    have f1 := k4.frz 1
    have f2 := k4.frz 2
    have t0 := k4.cell (i := 0) rfl
    have t1 := k4.cell (i := 1) rfl
    have t2 := k4.cell (i := 2) rfl
    have HRe := Lib.hid hRe
    clear hRe k4
    rw [HBe.out]
    go_wp2_with fail
    have k5 := HD.out.2.2
    rw [HBe.out] at k5
    have hk := ((k5.set 0 (.int .i64 0)).set 1 (.int .i64 0)).set 2 (.int .i64 0)
    have hbl := (((HD.out.2.1).setCell (p := ⟨be, 0, none⟩) (show w.heap.size ≤ be from Nat.le_of_eq HBe.out) (.int .i64 0)).setCell (p := ⟨be, 1, none⟩) (show w.heap.size ≤ be from Nat.le_of_eq HBe.out) (.int .i64 0)).setCell (p := ⟨be, 2, none⟩) (show w.heap.size ≤ be from Nat.le_of_eq HBe.out) (.int .i64 0)
    have e0 := hk.cell (i := 0) rfl
    have e1 := hk.cell (i := 1) rfl
    have e2 := hk.cell (i := 2) rfl
    exact bodyPost_ret (v := .tuple #[.slice none 0 0, .agg #[.int .i64 0, .int .i64 0, .int .i64 0], .int .i64 9]) (by simp [results, Tryz.results7, go_sem, e0, e1, e2]) rfl ⟨.slice none 0 0, by rw [HRe.out], by rw [HRe.out]; exact World.ownsRow_nil _ _ _ _, hbl⟩
  · have hKz : ((K : Int) == 0) = false := by simp [hK0]
    have hK1 := Lib.hid (show 1 ≤ K by omega)
    have hRe := HR.out
    rw [if_neg hK0] at hRe
    have HRe := Lib.hid hRe
    clear hRe hK0
    go_wp2_with fail
    refine (HFa.out wD F _ HD.out.1 HD.out.2.1 hK1.out).mono ?_; rintro e wE ⟨FE, rfl, hxE, huE⟩
    obtain ⟨S', hS'⟩ : ∃ S', fileP (textsOf fs) (findN fs) 8 x0 K 0 0 0 = S' := ⟨_, rfl⟩
    rw [hS'] at hxE
    have hRf := HRe.out
    rw [hS'] at hRf
    obtain ⟨kE, hnE⟩ := huE.keepBlk HD.out.2.2 HC.out.2.2.2
    have hbE : Below w.heap.size w wE := (HD.out.2.1).trans (huE.low (fun g hg => (HD.out.1.lt g hg).1) HD.out.2.1.size)
    rw [HBe.out] at kE hnE
    obtain ⟨bm, vt, vo, k, D, hxa, hFE⟩ := hxE
    rw [HBe.out] at hxa
    have x9 := hxa.blk.cell (i := 9) rfl
    have x6 := hxa.blk.cell (i := 6) rfl
    have x7 := hxa.blk.cell (i := 7) rfl
    have x8 := hxa.blk.cell (i := 8) rfl
    have x3 := hxa.blk.cell (i := 3) rfl
    have f0 := kE.frz 0
    have f1 := kE.frz 1
    have f2 := kE.frz 2
    have t0 := kE.cell (i := 0) rfl
    have t1 := kE.cell (i := 1) rfl
    have t2 := kE.cell (i := 2) rfl
    have hvo : vo.ownBlock ≠ some be := fun e => hnE (by rw [hFE, HBe.out]; exact .inr (.inr (.inr e)))
    have hbx : be ≠ be + 1 + 1 := by omega
    have HE := Lib.hid (And.intro hxa (And.intro kE (And.intro hvo (And.intro hbE (And.intro hRf hbx)))))
    clear huE hS' hRf kE hnE hbE hxa hFE hvo hbx
    rw [HBe.out]
    by_cases he : S'.err = 0
    · rw [he] at x9
      have HEr := Lib.hid he
      clear he x6 x7 x8
      go_wp2_with fail
      have hk := ((HE.out.2.1.set 0 (.int .i64 0)).set 1 (.int .i64 0)).set 2 (.int .i64 0)
      have hbl := (((HE.out.2.2.2.1).setCell (p := ⟨be, 0, none⟩) (show w.heap.size ≤ be from Nat.le_of_eq HBe.out) (.int .i64 0)).setCell (p := ⟨be, 1, none⟩) (show w.heap.size ≤ be from Nat.le_of_eq HBe.out) (.int .i64 0)).setCell (p := ⟨be, 2, none⟩) (show w.heap.size ≤ be from Nat.le_of_eq HBe.out) (.int .i64 0)
      have hot : ∀ i (u : Value) (W : World), W.ownsRow be 67 5 vo S'.out.length (outCells S'.out) → (W.setCell ⟨be, i, none⟩ u).ownsRow be 67 5 vo S'.out.length (outCells S'.out) := fun i u W h => ownsRow_setCell_far h HE.out.2.2.1 u
      have hrow := hot 2 (.int .i64 0) _ (hot 1 (.int .i64 0) _ (hot 0 (.int .i64 0) _ HE.out.1.ot))
      have e0 := hk.cell (i := 0) rfl
      have e1 := hk.cell (i := 1) rfl
      have e2 := hk.cell (i := 2) rfl
      have hRq := HE.out.2.2.2.2.1
      rw [if_neg (by rw [HEr.out]; simp)] at hRq
      exact bodyPost_ret (v := .tuple #[vo, .agg #[.int .i64 0, .int .i64 0, .int .i64 0], .int .i64 0]) (by simp [results, Tryz.results7, go_sem, e0, e1, e2]) rfl ⟨vo, by rw [← hRq], by rw [← hRq, HBe.out]; exact hrow, hbl⟩
    · have heb : (S'.err == 0) = false := by simp [he]
      have HEr := Lib.hid he
      clear he x3
      go_upto_region 7 with fail
      have s0 : wE.drew.cell? ⟨be + 1 + 1, 6, none⟩ = some (.int .i64 S'.f) ∧ wE.drew.cell? ⟨be + 1 + 1, 7, none⟩ = some (.int .i64 S'.l) ∧ wE.drew.cell? ⟨be + 1 + 1, 8, none⟩ = some (.int .i64 S'.c) ∧ wE.drew.cell? ⟨be + 1 + 1, 9, none⟩ = some (.int .i64 S'.err) := ⟨x6, x7, x8, x9⟩
      have s1 : ∀ u0 u1 u2, (((wE.drew.setCell ⟨be, 0, none⟩ u0).setCell ⟨be, 1, none⟩ u1).setCell ⟨be, 2, none⟩ u2).cell? ⟨be + 1 + 1, 6, none⟩ = some (.int .i64 S'.f) ∧ (((wE.drew.setCell ⟨be, 0, none⟩ u0).setCell ⟨be, 1, none⟩ u1).setCell ⟨be, 2, none⟩ u2).cell? ⟨be + 1 + 1, 7, none⟩ = some (.int .i64 S'.l) ∧ (((wE.drew.setCell ⟨be, 0, none⟩ u0).setCell ⟨be, 1, none⟩ u1).setCell ⟨be, 2, none⟩ u2).cell? ⟨be + 1 + 1, 8, none⟩ = some (.int .i64 S'.c) ∧ (((wE.drew.setCell ⟨be, 0, none⟩ u0).setCell ⟨be, 1, none⟩ u1).setCell ⟨be, 2, none⟩ u2).cell? ⟨be + 1 + 1, 9, none⟩ = some (.int .i64 S'.err) := by
        intro u0 u1 u2
        have hf : ∀ (W : World) (i j : Nat) (u : Value), (W.setCell ⟨be, i, none⟩ u).cell? ⟨be + 1 + 1, j, none⟩ = W.cell? ⟨be + 1 + 1, j, none⟩ := fun W i j u => World.cell?_setCell_far _ _ _ _ (by simp; omega)
        simp only [hf]
        exact s0
      have f0' : wE.drew.frozen? ⟨be, 0, none⟩ = false := f0
      have f1' : wE.drew.frozen? ⟨be, 1, none⟩ = false := f1
      have f2' : wE.drew.frozen? ⟨be, 2, none⟩ = false := f2
      have t0' : wE.drew.cell? ⟨be, 0, none⟩ = some (.int .i64 0) := t0
      have t1' : wE.drew.cell? ⟨be, 1, none⟩ = some (.int .i64 0) := t1
      have t2' : wE.drew.cell? ⟨be, 2, none⟩ = some (.int .i64 0) := t2
      have HE' := Lib.hid (And.intro (HE.out.2.1.next (Below.refl _ _).drew) (Below.next HE.out.2.2.2.1 (Below.refl _ _).drew))
      clear x6 x7 x8 x9
      refine wp_region_held_drew (S := fun w' => w'.cell? ⟨be + 1 + 1, 6, none⟩ = some (.int .i64 S'.f) ∧ w'.cell? ⟨be + 1 + 1, 7, none⟩ = some (.int .i64 S'.l) ∧ w'.cell? ⟨be + 1 + 1, 8, none⟩ = some (.int .i64 S'.c) ∧ w'.cell? ⟨be + 1 + 1, 9, none⟩ = some (.int .i64 S'.err)) (by kernel_rfl) s0 (fun hHeld => ?_)
      refine held_take (i := 0) (v := ?_) rfl (by kernel_rfl) (by kernel_rfl) (by kernel_rfl) (fun _ _ _ h => h) (Or.inl ⟨by rfl, ?_⟩) hHeld ?_
      rotate_left
      · intro w hSw; obtain ⟨hS1, hS2, hS3, hS4⟩ := hSw; go_simp; (try with_reducible rfl)
      try simp only [Act.put, List.setIfInBounds_toArray, List.set_cons_zero, List.set_cons_succ]
      refine held_take (i := 1) (v := ?_) rfl (by kernel_rfl) (by kernel_rfl) (by kernel_rfl) (fun _ _ _ h => h) (Or.inl ⟨by rfl, ?_⟩) hHeld ?_
      rotate_left
      · intro w hSw; obtain ⟨hS1, hS2, hS3, hS4⟩ := hSw; go_simp; (try with_reducible rfl)
      try simp only [Act.put, List.setIfInBounds_toArray, List.set_cons_zero, List.set_cons_succ]
      refine held_take (i := 2) (v := ?_) rfl (by kernel_rfl) (by kernel_rfl) (by kernel_rfl) (fun _ _ _ h => h) (Or.inl ⟨by rfl, ?_⟩) hHeld ?_
      rotate_left
      · intro w hSw; obtain ⟨hS1, hS2, hS3, hS4⟩ := hSw; go_simp; (try with_reducible rfl)
      try simp only [Act.put, List.setIfInBounds_toArray, List.set_cons_zero, List.set_cons_succ]
      refine held_take (i := 3) (v := ?_) rfl (by kernel_rfl) (by kernel_rfl) (by kernel_rfl) (fun _ _ _ h => h) (Or.inl ⟨by rfl, ?_⟩) hHeld ?_
      rotate_left
      · intro w hSw; obtain ⟨hS1, hS2, hS3, hS4⟩ := hSw; go_simp; (try with_reducible rfl)
      try simp only [Act.put, List.setIfInBounds_toArray, List.set_cons_zero, List.set_cons_succ]
      refine held_take (i := 4) (v := ?_) rfl (by kernel_rfl) (by kernel_rfl) (by kernel_rfl) (fun _ _ _ h => h) (Or.inl ⟨by rfl, ?_⟩) hHeld ?_
      rotate_left
      · intro w hSw; obtain ⟨hS1, hS2, hS3, hS4⟩ := hSw; go_simp; (try with_reducible rfl)
      try simp only [Act.put, List.setIfInBounds_toArray, List.set_cons_zero, List.set_cons_succ]
      refine held_take (i := 5) (v := ?_) rfl (by kernel_rfl) (by kernel_rfl) (by kernel_rfl) (fun _ _ _ h => h) (Or.inl ⟨by rfl, ?_⟩) hHeld ?_
      rotate_left
      · intro w hSw; obtain ⟨hS1, hS2, hS3, hS4⟩ := hSw; go_simp; (try with_reducible rfl)
      try simp only [Act.put, List.setIfInBounds_toArray, List.set_cons_zero, List.set_cons_succ]
      refine held_take (i := 6) (v := ?_) rfl (by kernel_rfl) (by kernel_rfl) (by kernel_rfl) (fun _ _ _ h => h) (Or.inl ⟨by rfl, ?_⟩) hHeld ?_
      rotate_left
      · intro w hSw; obtain ⟨hS1, hS2, hS3, hS4⟩ := hSw; go_simp; (try with_reducible rfl)
      try simp only [Act.put, List.setIfInBounds_toArray, List.set_cons_zero, List.set_cons_succ]
      refine held_take (i := 7) (v := ?_) rfl (by kernel_rfl) (by kernel_rfl) (by kernel_rfl) (fun _ _ _ h => h) (Or.inl ⟨by rfl, ?_⟩) hHeld ?_
      rotate_left
      · intro w hSw; obtain ⟨hS1, hS2, hS3, hS4⟩ := hSw; go_simp; (try with_reducible rfl)
      try simp only [Act.put, List.setIfInBounds_toArray, List.set_cons_zero, List.set_cons_succ]
      refine held_take (i := 8) (v := ?_) rfl (by kernel_rfl) (by kernel_rfl) (by kernel_rfl) (fun _ _ _ h => h) (Or.inl ⟨by rfl, ?_⟩) hHeld ?_
      rotate_left
      · intro w hSw; obtain ⟨hS1, hS2, hS3, hS4⟩ := hSw; go_simp; (try with_reducible rfl)
      try simp only [Act.put, List.setIfInBounds_toArray, List.set_cons_zero, List.set_cons_succ]
      refine wpAnyH_ready (rs := [9]) (by kernel_rfl) (by simp) ?_
      refine held_cons rfl (fun K hK => ?_) AllReadyH.nil
      go_simp
      refine hK.out _ _ (s1 _ _ _) (fun hHeld => ?_)
      clear hK K
      try simp only [Act.put, List.setIfInBounds_toArray, List.set_cons_zero, List.set_cons_succ]
      refine held_take (i := 10) (v := ?_) rfl (by kernel_rfl) (by kernel_rfl) (by kernel_rfl) (fun _ _ _ h => h) (Or.inl ⟨by rfl, ?_⟩) hHeld ?_
      rotate_left
      · intro w hSw; obtain ⟨hS1, hS2, hS3, hS4⟩ := hSw; go_simp; (try with_reducible rfl)
      try simp only [Act.put, List.setIfInBounds_toArray, List.set_cons_zero, List.set_cons_succ]
      refine wpAnyH_done (by kernel_rfl) ?_ _
      go_wp2_with fail
      have hk := ((HE.out.2.1.set 0 (.int .i64 S'.f)).set 1 (.int .i64 S'.l)).set 2 (.int .i64 S'.c)
      have hbl := ((((HE.out.2.2.2.1).setCell (p := ⟨be, 0, none⟩) (show w.heap.size ≤ be from Nat.le_of_eq HBe.out) (.int .i64 S'.f)).setCell (p := ⟨be, 1, none⟩) (show w.heap.size ≤ be from Nat.le_of_eq HBe.out) (.int .i64 S'.l)).setCell (p := ⟨be, 2, none⟩) (show w.heap.size ≤ be from Nat.le_of_eq HBe.out) (.int .i64 S'.c)).drew
      have e0 := hk.cell (i := 0) rfl
      have e1 := hk.cell (i := 1) rfl
      have e2 := hk.cell (i := 2) rfl
      have hRq := HE.out.2.2.2.2.1
      rw [if_pos HEr.out] at hRq
      exact bodyPost_ret (v := .tuple #[.slice none 0 0, .agg #[.int .i64 S'.f, .int .i64 S'.l, .int .i64 S'.c], .int .i64 S'.err]) (by simp [results, Tryz.results7, go_sem, e0, e1, e2]) rfl ⟨.slice none 0 0, by rw [← hRq], by rw [← hRq]; exact World.ownsRow_nil _ _ _ _, hbl⟩
end Go.Proofs.YtcjfelndnnhgjaaGreatDoor
namespace Go.Proofs.YtcjfelndnnhgjaaGreatDoor
set_option linter.unusedVariables false
open Go.RowKit Go.Deep Go.ChangeShapes Go.WideShapes Go.ChangeAt

theorem own : ownKnob Tryz.prog.godebug = none := by kernel_rfl
theorem laidOut : laidOutB Tryz.prog = true := by kernel_rfl
theorem door_met (os : Os) (args : Array Value) : laidMetH Tryz.prog [("unicode/utf8.acceptRanges", Rows.laid_unicode_utf8_acceptRanges), ("unicode/utf8.first", Rows.laid_unicode_utf8_first)] ((World.laidAll Tryz.prog os [("unicode/utf8.acceptRanges", Rows.laid_unicode_utf8_acceptRanges), ("unicode/utf8.first", Rows.laid_unicode_utf8_first)]).forCall (fun _ _ => 0) ⟨#[], args, []⟩).memory := by
  rw [MakeChecks.laidMetH_plain _ _ _ (by kernel_rfl)]
  exact laidMet_laidAll _ (by kernel_rfl) (by kernel_rfl)
theorem door_shape (os : Os) (args : Array Value) : ((World.laidAll Tryz.prog os [("unicode/utf8.acceptRanges", Rows.laid_unicode_utf8_acceptRanges), ("unicode/utf8.first", Rows.laid_unicode_utf8_first)]).forCall (fun _ _ => 0) ⟨#[], args, []⟩).Shaped Tryz.prog := World.shaped_of_ZipB (by kernel_rfl) (by kernel_rfl)
/-- the library's variable, out of the world's shape -/
theorem max_of_shape {w : World} (h : w.ShapedOpen Tryz.prog) : Max w :=
  Go.Proofs.cell_of_shapedOpen_int (zero := #[.int .i64 0]) (t := 3) h (of_decide_eq_true (by kernel_rfl)) (by kernel_rfl) rfl (by kernel_rfl) (by kernel_rfl) Tryz.underlying3
/-- the wrap of a row that lists variables, where the walk wants the world's shape besides -/
theorem handed_laid_shaped {H : Type} {enc : TypeId × Value → H} {C : Checked} {os : Os} {f : FuncId} {fn : Func} {s : ChangeSpec} {X : World → Array Value → Prop}
    (hX : ∀ (w w' : World) (args : Array Value), w.heap = w'.heap → X w args → X w' args)
    (own : ownKnob C.prog.godebug = none) (started : os.Started) (noInit : C.prog.inits.idxOf? f = none) (hfn : C.prog.funcs[f]? = some fn)
    (witness : ∃ (w : World) (tape : Tape) (i : Input), w.os = os ∧ (w.forCall tape i).Shaped C.prog ∧ i.vars = [] ∧ Input.okWide C.prog (w.forCall tape i) .any w.heap.size f i ∧
      ((s.pre enc C.prog fn [] false (w.forCall tape i).memory i.args ∧ X (w.forCall tape i).memory i.args) ∧ sizedMet enc C.prog fn (OpenSpec.ofChange s) false (w.forCall tape i).memory i.args) ∧ ({} : Assume).holds C.prog (lone (Frame.enter C.prog f i.args .normal) [] (w.forCall tape i)))
    (contract : ∀ (W : World) (base : Nat) (args : Array Value) (ds gs : List (DataW H)) (before : List MemPlace),
      (∀ (j : Nat) t v, fn.params[j]? = some t → args[j]? = some v → Value.okWide C.prog W .any base t v) →
      DataW.Whole enc C.prog fn.params.toList s.vars false W args.toList ds gs before →
      (DataW.weightsEach C.prog (fn.params.toList ++ s.plain.varTypes C.prog) (ds ++ gs)).all (· ≤ reachBytes) = true → X W args → W.ShapedOpen C.prog →
      Calls C.prog f args W fun e W' => ∃ v, e = .returned v ∧ s.post enc C.prog fn false true false false W args v W') :
    ReturnsInHanded {} C os f .any (fun w args => (s.pre enc C.prog fn [] false w args ∧ X w args) ∧ sizedMet enc C.prog fn (OpenSpec.ofChange s) false w args) (s.post enc C.prog fn false true false false) := by
  refine returnsInHanded_of_calls own started noInit witness fun w tape i _ hsh _ hok hpre _ => ?_
  obtain ⟨_, _, _, fn', hfn', _, _, _, _, hval⟩ := hok
  obtain rfl : fn' = fn := Option.some.inj (hfn'.symm.trans hfn)
  obtain ⟨⟨⟨ds, gs, before, hw, _⟩, hx⟩, hz⟩ := hpre
  refine (contract (w.forCall tape i) w.heap.size i.args ds gs before hval (DataW.Whole.of_heap (w' := w.forCall tape i) (by rfl) hw) (hz.weights hw) (hX _ _ _ (by rfl) hx) hsh).mono fun e W' hh => ?_
  obtain ⟨v, rfl, hp⟩ := hh
  exact ChangeSpec.post_blind hp
/-- an array of three strings that came in -/
theorem open_arr3s {H : Type} {enc : TypeId × Value → H} {P : Program} {w : World} {r : Reach} {b0 t e : Nat} {v : Value} {d : DataW H} {p : List MemPlace} (hs : P.underlying t = some (.array 3 e)) (hC : P.cellsOf t = 3) (hC1 : P.cellsOf e = 1)
    (he : P.underlying e = some .string) (hv : Value.okWide P w r b0 t v) (h : DataW.Trod enc P w 0 (fun _ => true) true t v d p) :
    ∃ a b c : ByteArray, v = .agg #[.string a, .string b, .string c] ∧ a.size ≤ maxLen ∧ b.size ≤ maxLen ∧ c.size ≤ maxLen := by
  simp only [Value.okWide, hs] at hv
  obtain ⟨cs, rfl, h2, _⟩ := hv
  rw [hC] at h2
  obtain ⟨m, hf⟩ := h
  obtain ⟨l⟩ := cs
  match l, h2 with
  | [x, y, z], _ =>
    cases m with
    | zero => simp [DataW.trod] at hf
    | succ m =>
      rw [DataW.trod_step] at hf
      unfold DataW.trodStep at hf
      simp only [hs, Value.cells, hC1] at hf
      rw [if_pos (by rw [hC]; rfl)] at hf
      simp only [Option.map_eq_some_iff] at hf
      obtain ⟨ys, hy, _⟩ := hf
      rw [show List.range 3 = [0, 1, 2] from rfl] at hy
      simp only [List.mapM_cons, List.mapM_nil, bind, Option.bind_eq_some_iff, pure] at hy
      obtain ⟨y0, hy0, y1, ⟨y2, hy2, y3, ⟨y4, hy4, y5, _, _⟩, _⟩, _⟩ := hy
      obtain ⟨a, ea, _, ha⟩ := DataW.trod_string he hy0
      obtain ⟨b, eb, _, hb⟩ := DataW.trod_string he hy2
      obtain ⟨c, ec, _, hc⟩ := DataW.trod_string he hy4
      simp at ea eb ec
      subst ea; subst eb; subst ec
      exact ⟨a, b, c, rfl, ha, hb, hc⟩
end Go.Proofs.YtcjfelndnnhgjaaGreatDoor
