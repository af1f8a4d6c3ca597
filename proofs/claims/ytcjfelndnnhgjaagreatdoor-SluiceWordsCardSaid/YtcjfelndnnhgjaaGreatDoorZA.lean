/- Texts of this claim, one behind another: E19. They state lemmas; each names its own conditions. -/
import Derived.Test.YtcjfelndnnhgjaaGreatDoorZ9
namespace Go.Proofs.YtcjfelndnnhgjaaGreatDoor
set_option linter.unusedVariables false
open Go.RowKit Go.Maps

set_option maxRecDepth 100000 in
set_option maxHeartbeats 8000000 in
theorem def_any {w0 w : World} {bx bf bt : Nat} {ps : List Part} {fs : List Fil} {F G : Nat → Prop} {S : Xs} {P : Fs} {tv : Value} {base : Nat} (htv : tv = .pointer (some ⟨bt, 0, none⟩)) (hbs : base = w0.heap.size) (hM : Made w0 bt ps fs) (hl : fs.length ≤ 100000) (h0 : Below w0.heap.size w0 w)
    (h : HasXF base bx bf tv F G w S P) (hb : base ≤ w.heap.size) (word rest : Bs) (hword : word = wDefine ∨ word = wUndef ∨ word = wInclude) (hrest : rest.length ≤ 32768) (htn : S.texts.length ≤ 8796093022207) (f l c : Int) (apart : Bool) (file : Xs → Nat → Int → Int → Int → Xs)
    (hfile : ∀ (W : World) (F' : Nat → Prop) (num : Nat), HasX base bx tv F' W S → Below w0.heap.size w0 W → 1 ≤ num → num ≤ fs.length → word = wInclude → num = findN fs (mid rest) → Calls Tryz.prog 17 #[.pointer (some ⟨bx, 0, none⟩), .int .i64 num, .agg #[.int .i64 f, .int .i64 l, .int .i64 c]] W (XR base bx tv F' W (file S num f l c) (.tuple #[]))) :
    Calls Tryz.prog 67 #[.pointer (some ⟨bf, 0, none⟩), .string (bstr word), .string (bstr rest), .agg #[.int .i64 f, .int .i64 l, .int .i64 c], .bool apart] w (FR base bx bf tv F G w (defP file (findN fs) S word rest f l c apart) P (.tuple #[])) := by
  have hIn := fun hi : word = wInclude => incl_any (w := w.alloc (.cells #[.int .i64 f, .int .i64 l, .int .i64 c] 32)) htv hbs hM hl (h0.trans ((Below.new w _).mono h0.size)) (h.below (Below.new w _)) (Nat.le_trans hb (Below.new w (.cells #[.int .i64 f, .int .i64 l, .int .i64 c] 32)).size) rest (by omega) f l c file (fun W' F' num a1 a2 a3 a4 a5 => hfile W' F' num a1 a2 a3 a4 hi a5)
  have HIn := Lib.hid hIn
  have HTN := Lib.hid htn
  have HRL := Lib.hid hrest
  clear hM hl hfile htv hbs h0 hIn
  obtain ⟨R, hR⟩ : ∃ R, (defP file (findN fs) S word rest f l c apart, P) = R := ⟨_, rfl⟩
  have hR1 : defP file (findN fs) S word rest f l c apart = R.1 := by rw [← hR]
  have hR2 : P = R.2 := by rw [← hR]
  have HR0 := Lib.hid hR1
  have HRP := Lib.hid hR2
  rw [hR1]
  clear hR hR1 hR2 htn hrest
  have hb1 := Below.new w (.cells #[.int .i64 f, .int .i64 l, .int .i64 c] 32)
  have k1 : Blk (w.alloc (.cells #[.int .i64 f, .int .i64 l, .int .i64 c] 32)) w.heap.size 32 [.int .i64 f, .int .i64 l, .int .i64 c] := Blk.new _ _
  have h1 := h.below hb1
  obtain ⟨vc, hf, hG⟩ := h1.f
  have a0 := hf.blk.cell (i := 0) rfl
  have a2 : True := trivial
  have e0 := k1.cell (i := 0) rfl
  have e1 := k1.cell (i := 1) rfl
  have e2 := k1.cell (i := 2) rfl
  have HX := Lib.hid (And.intro h1 (And.intro hb1 (And.intro k1 hb)))
  generalize hWW : w.alloc (.cells #[.int .i64 f, .int .i64 l, .int .i64 c] 32) = W at *
  have HWW := Lib.hid hWW
  obtain ⟨bo, hbo⟩ : ∃ bo, w.heap.size = bo := ⟨_, rfl⟩
  rw [hbo] at e0 e1 e2
  have HBo := Lib.hid hbo
  clear h hb1 k1 h1 hf hG hb
  obtain ⟨WD, hWD⟩ : ∃ WD, bstr word = WD := ⟨_, rfl⟩
  have hq1 := bstr_is word wInclude
  have hq2 := bstr_is word wUndef
  unfold wInclude at hq1
  unfold wUndef at hq2
  have hwi : decide (word = [105, 110, 99, 108, 117, 100, 101]) = decide (word = wInclude) := rfl
  have hwu : decide (word = [117, 110, 100, 101, 102]) = decide (word = wUndef) := rfl
  rw [hwi] at hq1
  rw [hwu] at hq2
  rw [hWD] at hq1 hq2 ⊢
  obtain ⟨RT, hRT⟩ : ∃ RT, bstr rest = RT := ⟨_, rfl⟩
  have HNm := Lib.hid (fun W' => name_any (w := W') rest (by have := HRL.out; omega))
  rw [hRT] at HNm HIn ⊢
  have HR1 := HR0.out
  unfold defP at HR1
  by_cases hi : word = wInclude
  · rw [decide_eq_true hi] at hq1
    rw [if_pos hi] at HR1
    have HIn := Lib.hid (HIn.out hi)
    rw [HR1, ← HWW.out] at HIn
    rw [HWW.out] at HIn
    clear HR1 hi hq2 hwi hwu hWD hRT
    go_enter Tryz.func67, Tryz.ntmps67
    go_wp2_with fail
    refine HIn.out.mono ?_; rintro e w5 ⟨F5, G5, rfl, hx5, hu5⟩
    have H5 := Lib.hid (And.intro hx5 ((Upd.below HX.out.2.1).trans hu5))
    clear hx5 hu5
    go_wp2_with fail
    go_end0
    exact ⟨F5, G5, rfl, H5.out.1, H5.out.2⟩
  · rw [decide_eq_false hi] at hq1
    rw [if_neg hi] at HR1
    have hBl := blank_ix ((rest.drop (name rest).length).getD 0 0)
    obtain ⟨BD, hBD⟩ : ∃ BD, bstr (rest.drop (name rest).length) = BD := ⟨_, rfl⟩
    obtain ⟨NM, hNM⟩ : ∃ NM, bstr (name rest) = NM := ⟨_, rfl⟩
    have hNl : NM.size = (name rest).length := by rw [← hNM, bstr_size]
    have hNr := name_le rest
    have hRs : RT.size = rest.length := by rw [← hRT, bstr_size]
    have hsl : ∀ w', (Instr.slice 9 (Value.string RT) (some (Value.int IntKind.i64 (NM.size : Int))) none none).run Tryz.prog w' = .ok (.string BD) w' := by
      intro w'
      have h := run_slice_string_l (P := Tryz.prog) (w := w') 9 RT Tryz.underlying9 .i64 (NM.size : Int) (by omega) (by omega)
      rw [h, ← hBD, hRs, ← hRT]
      rw [show ((NM.size : Int)).toNat = NM.size from rfl, bstr_extract, List.take_length, hNl]
    have hnle : (NM.size : Int) ≤ (RT.size : Int) := by omega
    have HBD := Lib.hid hBD
    have hkey := key_of (name rest) (by have := HRL.out; omega)
    rw [hNM] at hkey HNm
    clear hi hwi hwu hNl hNr hRs hRT hWD
    have hdrop : rest.drop (name rest).length = [] ∨ ¬ rest.drop (name rest).length = [] := by
      by_cases h : rest.drop (name rest).length = []
      · exact .inl h
      · exact .inr h
    by_cases hap : apart = false
    · subst hap
      rw [if_pos (.inl rfl)] at HR1
      have HR : Hid (R = (failP S f l c 5, P)) := Lib.hid (Prod.ext HR1.symm HRP.out.symm)
      clear HR1 hdrop hBl hBD hNM
      go_enter Tryz.func67, Tryz.ntmps67
      go_wp2_with fail
      refine (HNm.out _).mono ?_; rintro e wn ⟨rfl, rfl⟩
      go_upto_region 8 with fail
      refine wp_region_still_tail 5 (by kernel_rfl) (by kernel_rfl) ?_
      simp only [List.take_succ_cons, List.take_zero, List.drop_succ_cons, List.drop_zero]
      change wpStill _ _ W.drew (fun a' => wpList _ _ _ _ a' W.drew) _ _
      have a0' : W.drew.cell? ⟨bf, 0, none⟩ = _ := a0
      have e0' : W.drew.cell? ⟨bo, 0, none⟩ = _ := e0
      have e1' : W.drew.cell? ⟨bo, 1, none⟩ = _ := e1
      have e2' : W.drew.cell? ⟨bo, 2, none⟩ = _ := e2
      have H10 : Hid (HasXF base bx bf tv F G W.drew S P ∧ Upd (fun g => F g ∨ G g) (fun g => F g ∨ G g) w W.drew) := Lib.hid ⟨HX.out.1.below (Below.refl _ _).drew, (Upd.below HX.out.2.1).trans (Upd.below (w := W) (Below.refl _ _).drew)⟩
      clear a0 a2 e0 e1 e2 hWW hbo
      generalize W.drew = W4 at *
      repeat still_step
      try refine wpStill_nil ?_
      go_wp2_with fail
      refine (fail_any H10.out.1.x f l c 5).mono ?_; rintro e w5 ⟨F5, rfl, hx5, hu5⟩
      have H5 := Lib.hid (And.intro (H10.out.1.xon hx5 hu5) (hu5.wide G))
      clear hx5 hu5
      go_wp2_with fail
      go_end0
      exact ⟨F5, G, rfl, by rw [HR.out]; exact H5.out.1, H10.out.2.trans H5.out.2⟩
    · have hap' : apart = true := by simpa using hap
      subst hap'
      by_cases hn0 : name rest = []
      · have hie : NM.toList.isEmpty = true := by rw [← hNM, hn0, ByteArray.toList_eq]; rfl
        have hit : NM.toList = [] := by rw [← hNM, hn0, ByteArray.toList_eq]; rfl
        rw [if_pos (.inr (.inl hn0))] at HR1
        have HR : Hid (R = (failP S f l c 5, P)) := Lib.hid (Prod.ext HR1.symm HRP.out.symm)
        clear HR1 hdrop hBl hBD hNM hap hn0
        go_enter Tryz.func67, Tryz.ntmps67
        go_wp2_with fail
        refine (HNm.out _).mono ?_; rintro e wn ⟨rfl, rfl⟩
        go_upto_region 8 with fail
        refine wp_region_still_tail 5 (by kernel_rfl) (by kernel_rfl) ?_
        simp only [List.take_succ_cons, List.take_zero, List.drop_succ_cons, List.drop_zero]
        change wpStill _ _ W.drew (fun a' => wpList _ _ _ _ a' W.drew) _ _
        have a0' : W.drew.cell? ⟨bf, 0, none⟩ = _ := a0
        have e0' : W.drew.cell? ⟨bo, 0, none⟩ = _ := e0
        have e1' : W.drew.cell? ⟨bo, 1, none⟩ = _ := e1
        have e2' : W.drew.cell? ⟨bo, 2, none⟩ = _ := e2
        have H10 : Hid (HasXF base bx bf tv F G W.drew S P ∧ Upd (fun g => F g ∨ G g) (fun g => F g ∨ G g) w W.drew) := Lib.hid ⟨HX.out.1.below (Below.refl _ _).drew, (Upd.below HX.out.2.1).trans (Upd.below (w := W) (Below.refl _ _).drew)⟩
        clear a0 a2 e0 e1 e2 hWW hbo
        generalize W.drew = W4 at *
        repeat still_step
        try refine wpStill_nil ?_
        go_wp2_with fail
        refine (fail_any H10.out.1.x f l c 5).mono ?_; rintro e w5 ⟨F5, rfl, hx5, hu5⟩
        have H5 := Lib.hid (And.intro (H10.out.1.xon hx5 hu5) (hu5.wide G))
        clear hx5 hu5
        go_wp2_with fail
        go_end0
        exact ⟨F5, G, rfl, by rw [HR.out]; exact H5.out.1, H10.out.2.trans H5.out.2⟩
      · obtain ⟨hit, hie⟩ := bstr_ne hn0
        rw [hNM] at hit hie
        rcases hdrop with hb0 | hb0
        · have hbe : BD.toList.isEmpty = true := by rw [← hBD, hb0, ByteArray.toList_eq]; rfl
          have hbt : BD.toList = [] := by rw [← hBD, hb0, ByteArray.toList_eq]; rfl
          rw [if_neg (by rintro (h | h | h); cases h; exact hn0 h; exact h.1 hb0)] at HR1
          by_cases hu : word = wUndef
          · rw [decide_eq_true hu] at hq2
            rw [if_pos hu] at HR1
            have HR := Lib.hid HR1
            clear HR1 hBl hBD hNM hap hn0 hb0 hu
            obtain ⟨bm, vt, vo, k, D, hx, hF⟩ := HX.out.1.x
            have x1 := hx.blk.cell (i := 1) rfl
            have hown := hx.mp
            have H1 := Lib.hid (And.intro hx hF)
            clear hx hF e0 e1 e2 a2
            go_enter Tryz.func67, Tryz.ntmps67
            go_wp2_with fail
            refine (HNm.out _).mono ?_; rintro e wn ⟨rfl, rfl⟩
            go_wp2_with (first
              | (at_delete; refine wpList_delete_own _ rfl _ _ 61 9 rfl 3 keyS Tryz.underlying61 _ bm k D rfl hown _ _ rfl hkey ?_; intro w1 hown1 hturn1; have H2 := Lib.hid (H1.out.1.mapDel (name rest) (by exact hown1) hturn1.grown); clear hown1 hturn1)
              | fail)
            go_end0
            have hfin := HX.out.1.xon ⟨_, _, _, _, _, H2.out.1, rfl⟩ (by rw [H1.out.2]; exact H2.out.2)
            refine ⟨xFoot bx bm vt vo, G, rfl, ?_, ?_⟩
            · rw [← HR.out]; exact hfin
            · rw [H1.out.2]; exact (Upd.below HX.out.2.1).trans (H2.out.2.wide G)
          · rw [decide_eq_false hu] at hq2
            rw [if_neg hu] at HR1
            have HR := Lib.hid HR1
            clear HR1 hBl hBD hNM hap hn0 hb0 hu
            obtain ⟨bm, vt, vo, k, D, hx, hF⟩ := HX.out.1.x
            obtain ⟨tp, tc, rfl⟩ := ownsRow_form hx.tx
            obtain ⟨vc, hf, hG⟩ := HX.out.1.f
            obtain ⟨n, hn⟩ : ∃ n, S.texts.length = n := ⟨_, rfl⟩
            rw [hn] at hx hF
            have hFF := Lib.hid hF
            have c2 := hx.blk.cell (i := 2) rfl
            have f2 := hx.blk.frz 2
            have htx := hx.tx
            rw [hn] at htx
            have a0 := hf.blk.cell (i := 0) rfl
            have hHO : bf < W.heap.size ∧ Value.ownBlock (.slice tp n tc) ≠ some bf ∧ bx < W.heap.size ∧ Value.ownBlock (.slice tp n tc) ≠ some bx ∧ base ≤ W.heap.size ∧ bf ≠ bx := by
              refine ⟨hf.blk.lt, fun e => HX.out.1.dis bf (by rw [hG]; exact .inl rfl) (by rw [hF]; exact .inr (.inr (.inl e))), hx.blk.lt, hx.t1, ?_, fun e => HX.out.1.dis bf (by rw [hG]; exact .inl rfl) (by rw [hF]; exact .inl e)⟩
              have := hx.gx; have := hx.blk.lt; omega
            have hwf : (Lit.int .i64 ((n + 1 : Nat) : Int)).wf = true := wf_nat (n + 1) (by have := HTN.out; omega)
            obtain ⟨tt, htt⟩ : ∃ tt, trim (rest.drop (name rest).length) = tt := ⟨_, rfl⟩
            obtain ⟨TB, hTB⟩ : ∃ TB, bstr tt = TB := ⟨_, rfl⟩
            have hTr := trim_any (w := W.drew) (rest.drop (name rest).length) (by rw [List.length_drop]; have := HRL.out; omega)
            rw [HBD.out, htt, hTB] at hTr
            have HTr := Lib.hid hTr
            have HTx := Lib.hid (And.intro hn hTB)
            have hnb : n ≤ 8796093022207 := by have := HTN.out; omega
            rw [htt] at HR
            have H1 := Lib.hid (And.intro hx (And.intro htx hHO))
            clear hF hx hf hG hn htt hTB hTr htx hHO a2 e0 e1 e2
            go_enter Tryz.func67, Tryz.ntmps67
            go_wp2_with fail
            refine (HNm.out _).mono ?_; rintro e wn ⟨rfl, rfl⟩
            go_upto_region 5 with fail
            refine wp_region_held_drew (S := fun W => W.cell? ⟨bf, 0, none⟩ = some (.pointer (some ⟨bx, 0, none⟩)) ∧ True ∧ True) (by kernel_rfl) ?_ (fun hHeld => ?_)
            · exact ⟨a0, trivial, trivial⟩
            refine held_take (i := 0) (v := ?_) rfl (by kernel_rfl) (by kernel_rfl) (by kernel_rfl) (fun _ _ _ h => h) (Or.inl ⟨by rfl, ?_⟩) hHeld ?_
            rotate_left
            · intro w hSw; obtain ⟨hS1, hS2, hS3⟩ := hSw; go_simp; (try with_reducible rfl)
            try simp only [Act.put, List.setIfInBounds_toArray, List.set_cons_zero, List.set_cons_succ]
            refine held_take (i := 1) (v := ?_) rfl (by kernel_rfl) (by kernel_rfl) (by kernel_rfl) (fun _ _ _ h => h) (Or.inl ⟨by rfl, ?_⟩) hHeld ?_
            rotate_left
            · intro w hSw; obtain ⟨hS1, hS2, hS3⟩ := hSw; go_simp; (try with_reducible rfl)
            try simp only [Act.put, List.setIfInBounds_toArray, List.set_cons_zero, List.set_cons_succ]
            refine held_take (i := 2) (v := ?_) rfl (by kernel_rfl) (by kernel_rfl) (by kernel_rfl) (fun _ _ _ h => h) (Or.inl ⟨by rfl, ?_⟩) hHeld ?_
            rotate_left
            · intro w hSw; obtain ⟨hS1, hS2, hS3⟩ := hSw; go_simp; (try with_reducible rfl)
            try simp only [Act.put, List.setIfInBounds_toArray, List.set_cons_zero, List.set_cons_succ]
            refine held_take (i := 3) (v := ?_) rfl (by kernel_rfl) (by kernel_rfl) (by kernel_rfl) (fun _ _ _ h => h) (Or.inl ⟨by rfl, ?_⟩) hHeld ?_
            rotate_left
            · intro w hSw; obtain ⟨hS1, hS2, hS3⟩ := hSw; go_simp; (try with_reducible rfl)
            try simp only [Act.put, List.setIfInBounds_toArray, List.set_cons_zero, List.set_cons_succ]
            refine held_take (i := 4) (v := ?_) rfl (by kernel_rfl) (by kernel_rfl) (by kernel_rfl) (fun _ _ _ h => h) (Or.inl ⟨by rfl, ?_⟩) hHeld ?_
            rotate_left
            · intro w hSw; obtain ⟨hS1, hS2, hS3⟩ := hSw; go_simp; (try with_reducible rfl)
            try simp only [Act.put, List.setIfInBounds_toArray, List.set_cons_zero, List.set_cons_succ]
            refine held_take (i := 5) (v := ?_) rfl (by kernel_rfl) (by kernel_rfl) (by kernel_rfl) (fun _ _ _ h => h) (Or.inl ⟨by rfl, ?_⟩) hHeld ?_
            rotate_left
            · intro w hSw; obtain ⟨hS1, hS2, hS3⟩ := hSw; go_simp; (try with_reducible rfl)
            try simp only [Act.put, List.setIfInBounds_toArray, List.set_cons_zero, List.set_cons_succ]
            refine held_take (i := 6) (v := ?_) rfl (by kernel_rfl) (by kernel_rfl) (by kernel_rfl) (fun _ _ _ h => h) (Or.inl ⟨by rfl, ?_⟩) hHeld ?_
            rotate_left
            · intro w hSw; obtain ⟨hS1, hS2, hS3⟩ := hSw; go_simp; (try with_reducible rfl)
            try simp only [Act.put, List.setIfInBounds_toArray, List.set_cons_zero, List.set_cons_succ]
            refine held_take (i := 7) (v := ?_) rfl (by kernel_rfl) (by kernel_rfl) (by kernel_rfl) (fun _ _ _ h => h) (Or.inl ⟨by rfl, ?_⟩) hHeld ?_
            rotate_left
            · intro w hSw; obtain ⟨hS1, hS2, hS3⟩ := hSw; go_simp; (try with_reducible rfl)
            try simp only [Act.put, List.setIfInBounds_toArray, List.set_cons_zero, List.set_cons_succ]
            refine held_take (i := 8) (v := ?_) rfl (by kernel_rfl) (by kernel_rfl) (by kernel_rfl) (fun _ _ _ h => h) (Or.inl ⟨by rfl, ?_⟩) hHeld ?_
            rotate_left
            · intro w hSw; obtain ⟨hS1, hS2, hS3⟩ := hSw; go_simp; (try with_reducible rfl)
            try simp only [Act.put, List.setIfInBounds_toArray, List.set_cons_zero, List.set_cons_succ]
            refine held_take (i := 9) (v := ?_) rfl (by kernel_rfl) (by kernel_rfl) (by kernel_rfl) (fun _ _ _ h => h) (Or.inl ⟨by rfl, ?_⟩) hHeld ?_
            rotate_left
            · intro w hSw; obtain ⟨hS1, hS2, hS3⟩ := hSw; go_simp; (try with_reducible rfl)
            try simp only [Act.put, List.setIfInBounds_toArray, List.set_cons_zero, List.set_cons_succ]
            refine held_take (i := 11) (v := ?_) rfl (by kernel_rfl) (by kernel_rfl) (by kernel_rfl) (fun _ _ _ h => h) (Or.inl ⟨by rfl, ?_⟩) hHeld ?_
            rotate_left
            · intro w hSw; obtain ⟨hS1, hS2, hS3⟩ := hSw; go_simp; (try with_reducible rfl)
            try simp only [Act.put, List.setIfInBounds_toArray, List.set_cons_zero, List.set_cons_succ]
            have c2d : W.drew.cell? ⟨bx, 2, none⟩ = _ := c2
            have f2d : W.drew.frozen? ⟨bx, 2, none⟩ = _ := f2
            clear c2 f2 a0
            refine wpAnyH_ready (rs := [10, 12]) (by kernel_rfl) (by simp) ?_
            refine held_cons rfl (fun K hK => ?_) (held_cons rfl (fun K hK => ?_) AllReadyH.nil)
            · go_simp
              refine hK.out _ _ hHeld (fun _ => ?_)
              clear hK K
              try simp only [Act.put, List.setIfInBounds_toArray, List.set_cons_zero, List.set_cons_succ]
              refine wpAnyH_ready (rs := [12]) (by kernel_rfl) (by simp) ?_
              refine held_cons rfl (fun K hK => ?_) AllReadyH.nil
              go_simp
              refine HTr.out.mono ?_; rintro e w2 ⟨rfl, hb2⟩
              (try go_simp)
              have hbW : Below W.heap.size W w2 := Below.next (Below.refl _ _).drew hb2
              have hx2 := H1.out.1.below hbW
              have htx2 := hx2.tx
              rw [HTx.out.1] at htx2
              have c2 := hx2.blk.cell (i := 2) rfl
              have f2 := hx2.blk.frz 2
              have hHeld2 : (fun W => W.cell? ⟨bf, 0, none⟩ = some (.pointer (some ⟨bx, 0, none⟩)) ∧ True ∧ True) w2 := ⟨(hbW.cell (p := ⟨bf, 0, none⟩) H1.out.2.2.1).trans hHeld.1, trivial, trivial⟩
              refine hK.out _ _ hHeld2 (fun _ => ?_)
              clear hHeld hK K c2d f2d
              have hHeld := hHeld2
              clear hHeld2
              try simp only [Act.put, List.setIfInBounds_toArray, List.set_cons_zero, List.set_cons_succ]
              have hHeldA : (fun W => W.cell? ⟨bf, 0, none⟩ = some (.pointer (some ⟨bx, 0, none⟩)) ∧ True ∧ True) (w2.alloc (.cells #[.string TB] 9)) :=
                ⟨((Below.new w2 (.cells #[.string TB] 9)).cell (p := ⟨bf, 0, none⟩) (Nat.lt_of_lt_of_le H1.out.2.2.1 hbW.size)).trans hHeld.1, trivial, trivial⟩
              have hownA : (w2.alloc (.cells #[.string TB] 9)).ownsRow base 9 1 (.slice tp n tc) n (strCells S.texts) := htx2.alloc _
              have hboxA : (w2.alloc (.cells #[.string TB] 9)).heap[w2.heap.size]? = _ := heap_alloc_new w2 _
              have hszA : (w2.alloc (.cells #[.string TB] 9)).heap.size = w2.heap.size + 1 := World.size_alloc _ _
              have HO : Hid (bf < w2.heap.size ∧ Value.ownBlock (.slice tp n tc) ≠ some bf ∧ bx < w2.heap.size ∧ Value.ownBlock (.slice tp n tc) ≠ some bx ∧ base ≤ w2.heap.size ∧ bf ≠ bx) := Lib.hid (by
                have h := H1.out.2.2
                have hs := hbW.size
                exact ⟨by omega, h.2.1, by omega, h.2.2.2.1, by omega, h.2.2.2.2.2⟩)
              have HB0 := Lib.hid hHeld.1
              have H2 := Lib.hid (And.intro hbW hx2)
              have HA := Lib.hid (And.intro hHeldA (And.intro hownA (And.intro hboxA hszA)))
              clear hHeldA hownA hboxA hszA htx2 hbW hx2 hb2
              refine wpAnyH_ready (rs := [13]) (by kernel_rfl) (by simp) ?_
              refine held_cons rfl (fun K hK => ?_) AllReadyH.nil
              go_simp
              obtain ⟨hHeldA, hownA, hboxA, hszA⟩ := HA.out
              refine hK.out _ _ hHeldA (fun _ => ?_)
              clear hHeld hK K
              have hHeld := hHeldA
              clear hHeldA
              try simp only [Act.put, List.setIfInBounds_toArray, List.set_cons_zero, List.set_cons_succ]
              refine wpAnyH_ready (rs := [14]) (by kernel_rfl) (by simp) ?_
              refine held_cons rfl (fun K hK => step_app rfl _ _ 62 rfl TStrs base (.slice tp n tc) n (strCells S.texts) rfl hownA w2.heap.size 1 1 [.string TB] rfl _ hboxA rfl rfl (by simp [Value.oneCell']) Nat.one_pos (by omega) (by omega) (Nat.le_trans HO.out.2.2.2.2.1 (by show _ ≤ (w2.alloc _).heap.size; rw [World.size_alloc]; omega)) ?_) AllReadyH.nil
              intro g5 cap5 w5 happ
              have hold : ∀ j, j < w2.heap.size → Value.ownBlock (.slice tp n tc) ≠ some j → w5.heap[j]? = w2.heap[j]? := fun j hj hne => (happ.old (by rw [World.size_alloc]; omega) hne).trans (heap_alloc_old w2 _ hj)
              have e0 := hold bf HO.out.1 HO.out.2.1
              have e3 := hold bx HO.out.2.2.1 HO.out.2.2.2.1
              have hHeldB : (fun W => W.cell? ⟨bf, 0, none⟩ = some (.pointer (some ⟨bx, 0, none⟩)) ∧ True ∧ True) w5 := ⟨(World.cell?_of_block (a := ⟨bf, 0, none⟩) e0).trans HB0.out, trivial, trivial⟩
              have hc3 := (World.cell?_of_block (a := ⟨bx, 2, none⟩) e3).trans c2
              have hf3 := (World.frozen?_of_block (a := ⟨bx, 2, none⟩) e3).trans f2
              have H5 := Lib.hid happ
              refine hK.out _ _ hHeldB (fun _ => ?_)
              clear hHeld hK K happ hold e0 e3
              have hHeld := hHeldB
              clear hHeldB hownA hboxA hszA
              try simp only [Act.put, List.setIfInBounds_toArray, List.set_cons_zero, List.set_cons_succ]
              refine held_take (i := 15) (v := ?_) rfl (by kernel_rfl) (by kernel_rfl) (by kernel_rfl) (fun _ _ _ h => h) (Or.inl ⟨by rfl, ?_⟩) hHeld ?_
              rotate_left
              · intro w hSw; obtain ⟨hS1, hS2, hS3⟩ := hSw; go_simp; (try with_reducible rfl)
              try simp only [Act.put, List.setIfInBounds_toArray, List.set_cons_zero, List.set_cons_succ]
              refine held_take (i := 16) (v := ?_) rfl (by kernel_rfl) (by kernel_rfl) (by kernel_rfl) (fun _ _ _ h => h) (Or.inl ⟨by rfl, ?_⟩) hHeld ?_
              rotate_left
              · intro w hSw; obtain ⟨hS1, hS2, hS3⟩ := hSw; go_simp; (try with_reducible rfl)
              try simp only [Act.put, List.setIfInBounds_toArray, List.set_cons_zero, List.set_cons_succ]
              refine wpAnyH_ready (rs := [17]) (by kernel_rfl) (by simp) ?_
              refine held_cons rfl (fun K hK => ?_) AllReadyH.nil
              go_simp
              refine hK.out _ _ ⟨(World.cell?_setCell_far _ _ _ _ (fun e => HO.out.2.2.2.2.2 e.symm)).trans hHeld.1, trivial, trivial⟩ (fun _ => ?_)
              clear hK K
              try simp only [Act.put, List.setIfInBounds_toArray, List.set_cons_zero, List.set_cons_succ]
              refine wpAnyH_done (by kernel_rfl) ?_ _
              clear hc3 hf3 hHeld c2 f2
              have hend := H2.out.2.txApp (Below.new w2 (.cells #[.string TB] 9)) tt HTx.out.1 (by rw [HTx.out.2]; exact H5.out)
              have hUU := (Upd.below H2.out.1).trans hend.2
              have hfx : HasXF base bx bf tv (xFoot bx bm (.slice (some ⟨g5, 0, none⟩) (n + 1) cap5) vo) G (w5.setCell ⟨bx, 2, none⟩ (.slice (some ⟨g5, 0, none⟩) (n + 1) cap5)) { S with texts := S.texts ++ [tt] } P := HX.out.1.xon ⟨_, _, _, _, _, hend.1, rfl⟩ (by rw [hFF.out]; exact hUU)
              have HE6 := Lib.hid (And.intro hend.1 (And.intro hUU hfx))
              clear hend hUU hfx
              generalize w5.setCell ⟨bx, 2, none⟩ (.slice (some ⟨g5, 0, none⟩) (n + 1) cap5) = W6 at *
              obtain ⟨vc6, hf6, hG6⟩ := HE6.out.2.2.f
              clear hG6
              have a0 := hf6.blk.cell (i := 0) rfl
              have x1 := HE6.out.1.blk.cell (i := 1) rfl
              have x2 := HE6.out.1.blk.cell (i := 2) rfl
              clear hf6
              go_upto_region 6 with fail
              refine wp_region_still_tail 16 (by kernel_rfl) (by kernel_rfl) ?_
              simp only [List.take_succ_cons, List.take_zero, List.drop_succ_cons, List.drop_zero]
              change wpStill _ _ W6.drew (fun a' => wpList _ _ _ _ a' W6.drew) _ _
              have a0' : W6.drew.cell? ⟨bf, 0, none⟩ = _ := a0
              have x1' : W6.drew.cell? ⟨bx, 1, none⟩ = _ := x1
              have x2' : W6.drew.cell? ⟨bx, 2, none⟩ = _ := x2
              have HE7 := Lib.hid (And.intro HE6.out.1.drew (And.intro (HE6.out.2.1.trans (Upd.below (w := W6) (Below.refl _ _).drew)) (HE6.out.2.2.below (w' := W6.drew) (Below.refl _ _).drew)))
              clear a0 x1 x2 HE6
              generalize W6.drew = W7 at *
              repeat still_step
              try refine wpStill_nil ?_
              have hown := HE7.out.1.mp
              have hkm := HE7.out.1.kl
              clear a0' x1' x2'
              refine wpList_mapUpdate_own _ rfl _ _ _ 61 rfl 9 3 keyS Tryz.underlying61 _ bm k D rfl hown (by simp only [List.length_append, List.length_cons, List.length_nil, HTx.out.1] at hkm; unfold maxLen; omega) _ _ _ rfl rfl hkey _ [] (plainElem_int Tryz.underlying3 hwf) ?_
              intro w8 hown8 hgrow8
              have hput := HE7.out.1.mapPut (name rest) (n + 1) (by exact hown8) hgrow8 (by have h := H2.out.2.kl; show k + 1 ≤ (S.texts ++ [tt]).length; simp only [List.length_append, List.length_cons, List.length_nil]; omega)
              have HP8 := Lib.hid hput
              clear hput hown8 hgrow8 hown hkm
              go_wp2_with fail
              go_end0
              have hfin := HE7.out.2.2.xon ⟨_, _, _, _, _, HP8.out.1, rfl⟩ HP8.out.2
              refine ⟨xFoot bx bm (.slice (some ⟨g5, 0, none⟩) (n + 1) cap5) vo, G, rfl, ?_, ?_⟩
              · have h := hfin
                rw [← HTx.out.1] at h
                rw [← HR.out]; exact h
              · have := ((HE7.out.2.1.trans HP8.out.2).wide G)
                rw [← hFF.out] at this
                exact (Upd.below HX.out.2.1).trans this
            · go_simp
              refine HTr.out.mono ?_; rintro e w2 ⟨rfl, hb2⟩
              (try go_simp)
              have hbW : Below W.heap.size W w2 := Below.next (Below.refl _ _).drew hb2
              have hx2 := H1.out.1.below hbW
              have htx2 := hx2.tx
              rw [HTx.out.1] at htx2
              have c2 := hx2.blk.cell (i := 2) rfl
              have f2 := hx2.blk.frz 2
              have hHeld2 : (fun W => W.cell? ⟨bf, 0, none⟩ = some (.pointer (some ⟨bx, 0, none⟩)) ∧ True ∧ True) w2 := ⟨(hbW.cell (p := ⟨bf, 0, none⟩) H1.out.2.2.1).trans hHeld.1, trivial, trivial⟩
              refine hK.out _ _ hHeld2 (fun _ => ?_)
              clear hHeld hK K c2d f2d
              have hHeld := hHeld2
              clear hHeld2
              try simp only [Act.put, List.setIfInBounds_toArray, List.set_cons_zero, List.set_cons_succ]
              have hHeldA : (fun W => W.cell? ⟨bf, 0, none⟩ = some (.pointer (some ⟨bx, 0, none⟩)) ∧ True ∧ True) (w2.alloc (.cells #[.string TB] 9)) :=
                ⟨((Below.new w2 (.cells #[.string TB] 9)).cell (p := ⟨bf, 0, none⟩) (Nat.lt_of_lt_of_le H1.out.2.2.1 hbW.size)).trans hHeld.1, trivial, trivial⟩
              have hownA : (w2.alloc (.cells #[.string TB] 9)).ownsRow base 9 1 (.slice tp n tc) n (strCells S.texts) := htx2.alloc _
              have hboxA : (w2.alloc (.cells #[.string TB] 9)).heap[w2.heap.size]? = _ := heap_alloc_new w2 _
              have hszA : (w2.alloc (.cells #[.string TB] 9)).heap.size = w2.heap.size + 1 := World.size_alloc _ _
              have HO : Hid (bf < w2.heap.size ∧ Value.ownBlock (.slice tp n tc) ≠ some bf ∧ bx < w2.heap.size ∧ Value.ownBlock (.slice tp n tc) ≠ some bx ∧ base ≤ w2.heap.size ∧ bf ≠ bx) := Lib.hid (by
                have h := H1.out.2.2
                have hs := hbW.size
                exact ⟨by omega, h.2.1, by omega, h.2.2.2.1, by omega, h.2.2.2.2.2⟩)
              have HB0 := Lib.hid hHeld.1
              have H2 := Lib.hid (And.intro hbW hx2)
              have HA := Lib.hid (And.intro hHeldA (And.intro hownA (And.intro hboxA hszA)))
              clear hHeldA hownA hboxA hszA htx2 hbW hx2 hb2
              refine wpAnyH_ready (rs := [10, 13]) (by kernel_rfl) (by simp) ?_
              refine held_cons rfl (fun K hK => ?_) (held_cons rfl (fun K hK => ?_) AllReadyH.nil)
              · go_simp
                refine hK.out _ _ hHeld (fun _ => ?_)
                clear hK K
                try simp only [Act.put, List.setIfInBounds_toArray, List.set_cons_zero, List.set_cons_succ]
                refine wpAnyH_ready (rs := [13]) (by kernel_rfl) (by simp) ?_
                refine held_cons rfl (fun K hK => ?_) AllReadyH.nil
                go_simp
                obtain ⟨hHeldA, hownA, hboxA, hszA⟩ := HA.out
                refine hK.out _ _ hHeldA (fun _ => ?_)
                clear hHeld hK K
                have hHeld := hHeldA
                clear hHeldA
                try simp only [Act.put, List.setIfInBounds_toArray, List.set_cons_zero, List.set_cons_succ]
                refine wpAnyH_ready (rs := [14]) (by kernel_rfl) (by simp) ?_
                refine held_cons rfl (fun K hK => step_app rfl _ _ 62 rfl TStrs base (.slice tp n tc) n (strCells S.texts) rfl hownA w2.heap.size 1 1 [.string TB] rfl _ hboxA rfl rfl (by simp [Value.oneCell']) Nat.one_pos (by omega) (by omega) (Nat.le_trans HO.out.2.2.2.2.1 (by show _ ≤ (w2.alloc _).heap.size; rw [World.size_alloc]; omega)) ?_) AllReadyH.nil
                intro g5 cap5 w5 happ
                have hold : ∀ j, j < w2.heap.size → Value.ownBlock (.slice tp n tc) ≠ some j → w5.heap[j]? = w2.heap[j]? := fun j hj hne => (happ.old (by rw [World.size_alloc]; omega) hne).trans (heap_alloc_old w2 _ hj)
                have e0 := hold bf HO.out.1 HO.out.2.1
                have e3 := hold bx HO.out.2.2.1 HO.out.2.2.2.1
                have hHeldB : (fun W => W.cell? ⟨bf, 0, none⟩ = some (.pointer (some ⟨bx, 0, none⟩)) ∧ True ∧ True) w5 := ⟨(World.cell?_of_block (a := ⟨bf, 0, none⟩) e0).trans HB0.out, trivial, trivial⟩
                have hc3 := (World.cell?_of_block (a := ⟨bx, 2, none⟩) e3).trans c2
                have hf3 := (World.frozen?_of_block (a := ⟨bx, 2, none⟩) e3).trans f2
                have H5 := Lib.hid happ
                refine hK.out _ _ hHeldB (fun _ => ?_)
                clear hHeld hK K happ hold e0 e3
                have hHeld := hHeldB
                clear hHeldB hownA hboxA hszA
                try simp only [Act.put, List.setIfInBounds_toArray, List.set_cons_zero, List.set_cons_succ]
                refine held_take (i := 15) (v := ?_) rfl (by kernel_rfl) (by kernel_rfl) (by kernel_rfl) (fun _ _ _ h => h) (Or.inl ⟨by rfl, ?_⟩) hHeld ?_
                rotate_left
                · intro w hSw; obtain ⟨hS1, hS2, hS3⟩ := hSw; go_simp; (try with_reducible rfl)
                try simp only [Act.put, List.setIfInBounds_toArray, List.set_cons_zero, List.set_cons_succ]
                refine held_take (i := 16) (v := ?_) rfl (by kernel_rfl) (by kernel_rfl) (by kernel_rfl) (fun _ _ _ h => h) (Or.inl ⟨by rfl, ?_⟩) hHeld ?_
                rotate_left
                · intro w hSw; obtain ⟨hS1, hS2, hS3⟩ := hSw; go_simp; (try with_reducible rfl)
                try simp only [Act.put, List.setIfInBounds_toArray, List.set_cons_zero, List.set_cons_succ]
                refine wpAnyH_ready (rs := [17]) (by kernel_rfl) (by simp) ?_
                refine held_cons rfl (fun K hK => ?_) AllReadyH.nil
                go_simp
                refine hK.out _ _ ⟨(World.cell?_setCell_far _ _ _ _ (fun e => HO.out.2.2.2.2.2 e.symm)).trans hHeld.1, trivial, trivial⟩ (fun _ => ?_)
                clear hK K
                try simp only [Act.put, List.setIfInBounds_toArray, List.set_cons_zero, List.set_cons_succ]
                refine wpAnyH_done (by kernel_rfl) ?_ _
                clear hc3 hf3 hHeld c2 f2
                have hend := H2.out.2.txApp (Below.new w2 (.cells #[.string TB] 9)) tt HTx.out.1 (by rw [HTx.out.2]; exact H5.out)
                have hUU := (Upd.below H2.out.1).trans hend.2
                have hfx : HasXF base bx bf tv (xFoot bx bm (.slice (some ⟨g5, 0, none⟩) (n + 1) cap5) vo) G (w5.setCell ⟨bx, 2, none⟩ (.slice (some ⟨g5, 0, none⟩) (n + 1) cap5)) { S with texts := S.texts ++ [tt] } P := HX.out.1.xon ⟨_, _, _, _, _, hend.1, rfl⟩ (by rw [hFF.out]; exact hUU)
                have HE6 := Lib.hid (And.intro hend.1 (And.intro hUU hfx))
                clear hend hUU hfx
                generalize w5.setCell ⟨bx, 2, none⟩ (.slice (some ⟨g5, 0, none⟩) (n + 1) cap5) = W6 at *
                obtain ⟨vc6, hf6, hG6⟩ := HE6.out.2.2.f
                clear hG6
                have a0 := hf6.blk.cell (i := 0) rfl
                have x1 := HE6.out.1.blk.cell (i := 1) rfl
                have x2 := HE6.out.1.blk.cell (i := 2) rfl
                clear hf6
                go_upto_region 6 with fail
                refine wp_region_still_tail 16 (by kernel_rfl) (by kernel_rfl) ?_
                simp only [List.take_succ_cons, List.take_zero, List.drop_succ_cons, List.drop_zero]
                change wpStill _ _ W6.drew (fun a' => wpList _ _ _ _ a' W6.drew) _ _
                have a0' : W6.drew.cell? ⟨bf, 0, none⟩ = _ := a0
                have x1' : W6.drew.cell? ⟨bx, 1, none⟩ = _ := x1
                have x2' : W6.drew.cell? ⟨bx, 2, none⟩ = _ := x2
                have HE7 := Lib.hid (And.intro HE6.out.1.drew (And.intro (HE6.out.2.1.trans (Upd.below (w := W6) (Below.refl _ _).drew)) (HE6.out.2.2.below (w' := W6.drew) (Below.refl _ _).drew)))
                clear a0 x1 x2 HE6
                generalize W6.drew = W7 at *
                repeat still_step
                try refine wpStill_nil ?_
                have hown := HE7.out.1.mp
                have hkm := HE7.out.1.kl
                clear a0' x1' x2'
                refine wpList_mapUpdate_own _ rfl _ _ _ 61 rfl 9 3 keyS Tryz.underlying61 _ bm k D rfl hown (by simp only [List.length_append, List.length_cons, List.length_nil, HTx.out.1] at hkm; unfold maxLen; omega) _ _ _ rfl rfl hkey _ [] (plainElem_int Tryz.underlying3 hwf) ?_
                intro w8 hown8 hgrow8
                have hput := HE7.out.1.mapPut (name rest) (n + 1) (by exact hown8) hgrow8 (by have h := H2.out.2.kl; show k + 1 ≤ (S.texts ++ [tt]).length; simp only [List.length_append, List.length_cons, List.length_nil]; omega)
                have HP8 := Lib.hid hput
                clear hput hown8 hgrow8 hown hkm
                go_wp2_with fail
                go_end0
                have hfin := HE7.out.2.2.xon ⟨_, _, _, _, _, HP8.out.1, rfl⟩ HP8.out.2
                refine ⟨xFoot bx bm (.slice (some ⟨g5, 0, none⟩) (n + 1) cap5) vo, G, rfl, ?_, ?_⟩
                · have h := hfin
                  rw [← HTx.out.1] at h
                  rw [← HR.out]; exact h
                · have := ((HE7.out.2.1.trans HP8.out.2).wide G)
                  rw [← hFF.out] at this
                  exact (Upd.below HX.out.2.1).trans this
              · go_simp
                obtain ⟨hHeldA, hownA, hboxA, hszA⟩ := HA.out
                refine hK.out _ _ hHeldA (fun _ => ?_)
                clear hHeld hK K
                have hHeld := hHeldA
                clear hHeldA
                try simp only [Act.put, List.setIfInBounds_toArray, List.set_cons_zero, List.set_cons_succ]
                have c2A : (w2.alloc (.cells #[.string TB] 9)).cell? ⟨bx, 2, none⟩ = some (.slice tp n tc) := ((Below.new w2 _).cell (p := ⟨bx, 2, none⟩) HO.out.2.2.1).trans c2
                refine wpAnyH_ready (rs := [10]) (by kernel_rfl) (by simp) ?_
                refine held_cons rfl (fun K hK => ?_) AllReadyH.nil
                go_simp
                refine hK.out _ _ hHeld (fun _ => ?_)
                clear hK K
                try simp only [Act.put, List.setIfInBounds_toArray, List.set_cons_zero, List.set_cons_succ]
                clear c2A
                refine wpAnyH_ready (rs := [14]) (by kernel_rfl) (by simp) ?_
                refine held_cons rfl (fun K hK => step_app rfl _ _ 62 rfl TStrs base (.slice tp n tc) n (strCells S.texts) rfl hownA w2.heap.size 1 1 [.string TB] rfl _ hboxA rfl rfl (by simp [Value.oneCell']) Nat.one_pos (by omega) (by omega) (Nat.le_trans HO.out.2.2.2.2.1 (by show _ ≤ (w2.alloc _).heap.size; rw [World.size_alloc]; omega)) ?_) AllReadyH.nil
                intro g5 cap5 w5 happ
                have hold : ∀ j, j < w2.heap.size → Value.ownBlock (.slice tp n tc) ≠ some j → w5.heap[j]? = w2.heap[j]? := fun j hj hne => (happ.old (by rw [World.size_alloc]; omega) hne).trans (heap_alloc_old w2 _ hj)
                have e0 := hold bf HO.out.1 HO.out.2.1
                have e3 := hold bx HO.out.2.2.1 HO.out.2.2.2.1
                have hHeldB : (fun W => W.cell? ⟨bf, 0, none⟩ = some (.pointer (some ⟨bx, 0, none⟩)) ∧ True ∧ True) w5 := ⟨(World.cell?_of_block (a := ⟨bf, 0, none⟩) e0).trans HB0.out, trivial, trivial⟩
                have hc3 := (World.cell?_of_block (a := ⟨bx, 2, none⟩) e3).trans c2
                have hf3 := (World.frozen?_of_block (a := ⟨bx, 2, none⟩) e3).trans f2
                have H5 := Lib.hid happ
                refine hK.out _ _ hHeldB (fun _ => ?_)
                clear hHeld hK K happ hold e0 e3
                have hHeld := hHeldB
                clear hHeldB hownA hboxA hszA
                try simp only [Act.put, List.setIfInBounds_toArray, List.set_cons_zero, List.set_cons_succ]
                refine held_take (i := 15) (v := ?_) rfl (by kernel_rfl) (by kernel_rfl) (by kernel_rfl) (fun _ _ _ h => h) (Or.inl ⟨by rfl, ?_⟩) hHeld ?_
                rotate_left
                · intro w hSw; obtain ⟨hS1, hS2, hS3⟩ := hSw; go_simp; (try with_reducible rfl)
                try simp only [Act.put, List.setIfInBounds_toArray, List.set_cons_zero, List.set_cons_succ]
                refine held_take (i := 16) (v := ?_) rfl (by kernel_rfl) (by kernel_rfl) (by kernel_rfl) (fun _ _ _ h => h) (Or.inl ⟨by rfl, ?_⟩) hHeld ?_
                rotate_left
                · intro w hSw; obtain ⟨hS1, hS2, hS3⟩ := hSw; go_simp; (try with_reducible rfl)
                try simp only [Act.put, List.setIfInBounds_toArray, List.set_cons_zero, List.set_cons_succ]
                refine wpAnyH_ready (rs := [17]) (by kernel_rfl) (by simp) ?_
                refine held_cons rfl (fun K hK => ?_) AllReadyH.nil
                go_simp
                refine hK.out _ _ ⟨(World.cell?_setCell_far _ _ _ _ (fun e => HO.out.2.2.2.2.2 e.symm)).trans hHeld.1, trivial, trivial⟩ (fun _ => ?_)
                clear hK K
                try simp only [Act.put, List.setIfInBounds_toArray, List.set_cons_zero, List.set_cons_succ]
                refine wpAnyH_done (by kernel_rfl) ?_ _
                clear hc3 hf3 hHeld c2 f2
                have hend := H2.out.2.txApp (Below.new w2 (.cells #[.string TB] 9)) tt HTx.out.1 (by rw [HTx.out.2]; exact H5.out)
                have hUU := (Upd.below H2.out.1).trans hend.2
                have hfx : HasXF base bx bf tv (xFoot bx bm (.slice (some ⟨g5, 0, none⟩) (n + 1) cap5) vo) G (w5.setCell ⟨bx, 2, none⟩ (.slice (some ⟨g5, 0, none⟩) (n + 1) cap5)) { S with texts := S.texts ++ [tt] } P := HX.out.1.xon ⟨_, _, _, _, _, hend.1, rfl⟩ (by rw [hFF.out]; exact hUU)
                have HE6 := Lib.hid (And.intro hend.1 (And.intro hUU hfx))
                clear hend hUU hfx
                generalize w5.setCell ⟨bx, 2, none⟩ (.slice (some ⟨g5, 0, none⟩) (n + 1) cap5) = W6 at *
                obtain ⟨vc6, hf6, hG6⟩ := HE6.out.2.2.f
                clear hG6
                have a0 := hf6.blk.cell (i := 0) rfl
                have x1 := HE6.out.1.blk.cell (i := 1) rfl
                have x2 := HE6.out.1.blk.cell (i := 2) rfl
                clear hf6
                go_upto_region 6 with fail
                refine wp_region_still_tail 16 (by kernel_rfl) (by kernel_rfl) ?_
                simp only [List.take_succ_cons, List.take_zero, List.drop_succ_cons, List.drop_zero]
                change wpStill _ _ W6.drew (fun a' => wpList _ _ _ _ a' W6.drew) _ _
                have a0' : W6.drew.cell? ⟨bf, 0, none⟩ = _ := a0
                have x1' : W6.drew.cell? ⟨bx, 1, none⟩ = _ := x1
                have x2' : W6.drew.cell? ⟨bx, 2, none⟩ = _ := x2
                have HE7 := Lib.hid (And.intro HE6.out.1.drew (And.intro (HE6.out.2.1.trans (Upd.below (w := W6) (Below.refl _ _).drew)) (HE6.out.2.2.below (w' := W6.drew) (Below.refl _ _).drew)))
                clear a0 x1 x2 HE6
                generalize W6.drew = W7 at *
                repeat still_step
                try refine wpStill_nil ?_
                have hown := HE7.out.1.mp
                have hkm := HE7.out.1.kl
                clear a0' x1' x2'
                refine wpList_mapUpdate_own _ rfl _ _ _ 61 rfl 9 3 keyS Tryz.underlying61 _ bm k D rfl hown (by simp only [List.length_append, List.length_cons, List.length_nil, HTx.out.1] at hkm; unfold maxLen; omega) _ _ _ rfl rfl hkey _ [] (plainElem_int Tryz.underlying3 hwf) ?_
                intro w8 hown8 hgrow8
                have hput := HE7.out.1.mapPut (name rest) (n + 1) (by exact hown8) hgrow8 (by have h := H2.out.2.kl; show k + 1 ≤ (S.texts ++ [tt]).length; simp only [List.length_append, List.length_cons, List.length_nil]; omega)
                have HP8 := Lib.hid hput
                clear hput hown8 hgrow8 hown hkm
                go_wp2_with fail
                go_end0
                have hfin := HE7.out.2.2.xon ⟨_, _, _, _, _, HP8.out.1, rfl⟩ HP8.out.2
                refine ⟨xFoot bx bm (.slice (some ⟨g5, 0, none⟩) (n + 1) cap5) vo, G, rfl, ?_, ?_⟩
                · have h := hfin
                  rw [← HTx.out.1] at h
                  rw [← HR.out]; exact h
                · have := ((HE7.out.2.1.trans HP8.out.2).wide G)
                  rw [← hFF.out] at this
                  exact (Upd.below HX.out.2.1).trans this
        · obtain ⟨hbt, hbe⟩ := bstr_ne hb0
          rw [hBD] at hbt hbe
          by_cases hu : word = wUndef
          · rw [decide_eq_true hu] at hq2
            rw [if_pos (.inr (.inr ⟨hb0, .inl hu⟩))] at HR1
            have HR : Hid (R = (failP S f l c 5, P)) := Lib.hid (Prod.ext HR1.symm HRP.out.symm)
            clear HR1 hBl hBD hNM hap hn0 hb0 hu
            go_enter Tryz.func67, Tryz.ntmps67
            go_wp2_with fail
            refine (HNm.out _).mono ?_; rintro e wn ⟨rfl, rfl⟩
            go_upto_region 8 with fail
            refine wp_region_still_tail 5 (by kernel_rfl) (by kernel_rfl) ?_
            simp only [List.take_succ_cons, List.take_zero, List.drop_succ_cons, List.drop_zero]
            change wpStill _ _ W.drew (fun a' => wpList _ _ _ _ a' W.drew) _ _
            have a0' : W.drew.cell? ⟨bf, 0, none⟩ = _ := a0
            have e0' : W.drew.cell? ⟨bo, 0, none⟩ = _ := e0
            have e1' : W.drew.cell? ⟨bo, 1, none⟩ = _ := e1
            have e2' : W.drew.cell? ⟨bo, 2, none⟩ = _ := e2
            have H10 : Hid (HasXF base bx bf tv F G W.drew S P ∧ Upd (fun g => F g ∨ G g) (fun g => F g ∨ G g) w W.drew) := Lib.hid ⟨HX.out.1.below (Below.refl _ _).drew, (Upd.below HX.out.2.1).trans (Upd.below (w := W) (Below.refl _ _).drew)⟩
            clear a0 a2 e0 e1 e2 hWW hbo
            generalize W.drew = W4 at *
            repeat still_step
            try refine wpStill_nil ?_
            go_wp2_with fail
            refine (fail_any H10.out.1.x f l c 5).mono ?_; rintro e w5 ⟨F5, rfl, hx5, hu5⟩
            have H5 := Lib.hid (And.intro (H10.out.1.xon hx5 hu5) (hu5.wide G))
            clear hx5 hu5
            go_wp2_with fail
            go_end0
            exact ⟨F5, G, rfl, by rw [HR.out]; exact H5.out.1, H10.out.2.trans H5.out.2⟩
          · rw [decide_eq_false hu] at hq2
            obtain ⟨c0, hc0⟩ : ∃ c0, (rest.drop (name rest).length).getD 0 0 = c0 := ⟨_, rfl⟩
            have hBs : 0 < BD.size := by
              rw [← hBD, bstr_size]
              cases hq : rest.drop (name rest).length with
              | nil => exact absurd hq hb0
              | cons _ _ => simp
            have hBsi : (0 : Int) < (BD.size : Int) := by omega
            have hat : ∀ h : 0 < BD.size, BD[0] = c0 := by subst hBD; intro h; rw [bstr_at, hc0]
            have hIB := Tryz.strings_IndexByte ⟨#[32, 9, 13]⟩ (c0.toNat : Int) W
            rw [show (⟨#[32, 9, 13]⟩ : ByteArray).data.toList = [32, 9, 13] from rfl, show ((c0.toNat : Int)).toNat.toUInt8 = c0 by simp] at hIB
            rw [hc0] at hBl HR1
            obtain ⟨ib, hib⟩ : ∃ ib, Lib.indexByte [32, 9, 13] c0 = ib := ⟨_, rfl⟩
            rw [hib] at hBl hIB
            have HIB := Lib.hid hIB
            by_cases hbl : isBlank c0 = false
            · have hneg : decide (ib < 0) = true := decide_eq_true (hBl.2 hbl)
              rw [if_pos (.inr (.inr ⟨hb0, .inr hbl⟩))] at HR1
              have HR : Hid (R = (failP S f l c 5, P)) := Lib.hid (Prod.ext HR1.symm HRP.out.symm)
              clear HR1 hBl hBD hNM hap hn0 hb0 hu hc0 hib hbl hIB
              go_enter Tryz.func67, Tryz.ntmps67
              go_wp2_with fail
              refine (HNm.out _).mono ?_; rintro e wn ⟨rfl, rfl⟩
              go_wp2_with fail
              refine HIB.out.mono ?_; rintro e wn ⟨rfl, hwn⟩; obtain rfl : W = wn := hwn.symm
              go_upto_region 8 with fail
              refine wp_region_still_tail 5 (by kernel_rfl) (by kernel_rfl) ?_
              simp only [List.take_succ_cons, List.take_zero, List.drop_succ_cons, List.drop_zero]
              change wpStill _ _ W.drew (fun a' => wpList _ _ _ _ a' W.drew) _ _
              have a0' : W.drew.cell? ⟨bf, 0, none⟩ = _ := a0
              have e0' : W.drew.cell? ⟨bo, 0, none⟩ = _ := e0
              have e1' : W.drew.cell? ⟨bo, 1, none⟩ = _ := e1
              have e2' : W.drew.cell? ⟨bo, 2, none⟩ = _ := e2
              have H10 : Hid (HasXF base bx bf tv F G W.drew S P ∧ Upd (fun g => F g ∨ G g) (fun g => F g ∨ G g) w W.drew) := Lib.hid ⟨HX.out.1.below (Below.refl _ _).drew, (Upd.below HX.out.2.1).trans (Upd.below (w := W) (Below.refl _ _).drew)⟩
              clear a0 a2 e0 e1 e2 hWW hbo
              generalize W.drew = W4 at *
              repeat still_step
              try refine wpStill_nil ?_
              go_wp2_with fail
              refine (fail_any H10.out.1.x f l c 5).mono ?_; rintro e w5 ⟨F5, rfl, hx5, hu5⟩
              have H5 := Lib.hid (And.intro (H10.out.1.xon hx5 hu5) (hu5.wide G))
              clear hx5 hu5
              go_wp2_with fail
              go_end0
              exact ⟨F5, G, rfl, by rw [HR.out]; exact H5.out.1, H10.out.2.trans H5.out.2⟩
            · have hneg : decide (ib < 0) = false := decide_eq_false (fun h => hbl (hBl.1 h))
              rw [if_neg (by rintro (h | h | h); cases h; exact hn0 h; exact h.2.elim hu hbl), if_neg hu] at HR1
              have HR := Lib.hid HR1
              clear HR1 hBl hBD hNM hap hn0 hb0 hu hc0 hib hbl hIB
              obtain ⟨bm, vt, vo, k, D, hx, hF⟩ := HX.out.1.x
              obtain ⟨tp, tc, rfl⟩ := ownsRow_form hx.tx
              obtain ⟨vc, hf, hG⟩ := HX.out.1.f
              obtain ⟨n, hn⟩ : ∃ n, S.texts.length = n := ⟨_, rfl⟩
              rw [hn] at hx hF
              have hFF := Lib.hid hF
              have c2 := hx.blk.cell (i := 2) rfl
              have f2 := hx.blk.frz 2
              have htx := hx.tx
              rw [hn] at htx
              have a0 := hf.blk.cell (i := 0) rfl
              have hHO : bf < W.heap.size ∧ Value.ownBlock (.slice tp n tc) ≠ some bf ∧ bx < W.heap.size ∧ Value.ownBlock (.slice tp n tc) ≠ some bx ∧ base ≤ W.heap.size ∧ bf ≠ bx := by
                refine ⟨hf.blk.lt, fun e => HX.out.1.dis bf (by rw [hG]; exact .inl rfl) (by rw [hF]; exact .inr (.inr (.inl e))), hx.blk.lt, hx.t1, ?_, fun e => HX.out.1.dis bf (by rw [hG]; exact .inl rfl) (by rw [hF]; exact .inl e)⟩
                have := hx.gx; have := hx.blk.lt; omega
              have hwf : (Lit.int .i64 ((n + 1 : Nat) : Int)).wf = true := wf_nat (n + 1) (by have := HTN.out; omega)
              obtain ⟨tt, htt⟩ : ∃ tt, trim (rest.drop (name rest).length) = tt := ⟨_, rfl⟩
              obtain ⟨TB, hTB⟩ : ∃ TB, bstr tt = TB := ⟨_, rfl⟩
              have hTr := trim_any (w := W.drew) (rest.drop (name rest).length) (by rw [List.length_drop]; have := HRL.out; omega)
              rw [HBD.out, htt, hTB] at hTr
              have HTr := Lib.hid hTr
              have HTx := Lib.hid (And.intro hn hTB)
              have hnb : n ≤ 8796093022207 := by have := HTN.out; omega
              rw [htt] at HR
              have H1 := Lib.hid (And.intro hx (And.intro htx hHO))
              clear hF hx hf hG hn htt hTB hTr htx hHO a2 e0 e1 e2
              go_enter Tryz.func67, Tryz.ntmps67
              go_wp2_with fail
              refine (HNm.out _).mono ?_; rintro e wn ⟨rfl, rfl⟩
              go_wp2_with fail
              refine HIB.out.mono ?_; rintro e wn ⟨rfl, hwn⟩; obtain rfl : W = wn := hwn.symm
              go_upto_region 5 with fail
              refine wp_region_held_drew (S := fun W => W.cell? ⟨bf, 0, none⟩ = some (.pointer (some ⟨bx, 0, none⟩)) ∧ True ∧ True) (by kernel_rfl) ?_ (fun hHeld => ?_)
              · exact ⟨a0, trivial, trivial⟩
              refine held_take (i := 0) (v := ?_) rfl (by kernel_rfl) (by kernel_rfl) (by kernel_rfl) (fun _ _ _ h => h) (Or.inl ⟨by rfl, ?_⟩) hHeld ?_
              rotate_left
              · intro w hSw; obtain ⟨hS1, hS2, hS3⟩ := hSw; go_simp; (try with_reducible rfl)
              try simp only [Act.put, List.setIfInBounds_toArray, List.set_cons_zero, List.set_cons_succ]
              refine held_take (i := 1) (v := ?_) rfl (by kernel_rfl) (by kernel_rfl) (by kernel_rfl) (fun _ _ _ h => h) (Or.inl ⟨by rfl, ?_⟩) hHeld ?_
              rotate_left
              · intro w hSw; obtain ⟨hS1, hS2, hS3⟩ := hSw; go_simp; (try with_reducible rfl)
              try simp only [Act.put, List.setIfInBounds_toArray, List.set_cons_zero, List.set_cons_succ]
              refine held_take (i := 2) (v := ?_) rfl (by kernel_rfl) (by kernel_rfl) (by kernel_rfl) (fun _ _ _ h => h) (Or.inl ⟨by rfl, ?_⟩) hHeld ?_
              rotate_left
              · intro w hSw; obtain ⟨hS1, hS2, hS3⟩ := hSw; go_simp; (try with_reducible rfl)
              try simp only [Act.put, List.setIfInBounds_toArray, List.set_cons_zero, List.set_cons_succ]
              refine held_take (i := 3) (v := ?_) rfl (by kernel_rfl) (by kernel_rfl) (by kernel_rfl) (fun _ _ _ h => h) (Or.inl ⟨by rfl, ?_⟩) hHeld ?_
              rotate_left
              · intro w hSw; obtain ⟨hS1, hS2, hS3⟩ := hSw; go_simp; (try with_reducible rfl)
              try simp only [Act.put, List.setIfInBounds_toArray, List.set_cons_zero, List.set_cons_succ]
              refine held_take (i := 4) (v := ?_) rfl (by kernel_rfl) (by kernel_rfl) (by kernel_rfl) (fun _ _ _ h => h) (Or.inl ⟨by rfl, ?_⟩) hHeld ?_
              rotate_left
              · intro w hSw; obtain ⟨hS1, hS2, hS3⟩ := hSw; go_simp; (try with_reducible rfl)
              try simp only [Act.put, List.setIfInBounds_toArray, List.set_cons_zero, List.set_cons_succ]
              refine held_take (i := 5) (v := ?_) rfl (by kernel_rfl) (by kernel_rfl) (by kernel_rfl) (fun _ _ _ h => h) (Or.inl ⟨by rfl, ?_⟩) hHeld ?_
              rotate_left
              · intro w hSw; obtain ⟨hS1, hS2, hS3⟩ := hSw; go_simp; (try with_reducible rfl)
              try simp only [Act.put, List.setIfInBounds_toArray, List.set_cons_zero, List.set_cons_succ]
              refine held_take (i := 6) (v := ?_) rfl (by kernel_rfl) (by kernel_rfl) (by kernel_rfl) (fun _ _ _ h => h) (Or.inl ⟨by rfl, ?_⟩) hHeld ?_
              rotate_left
              · intro w hSw; obtain ⟨hS1, hS2, hS3⟩ := hSw; go_simp; (try with_reducible rfl)
              try simp only [Act.put, List.setIfInBounds_toArray, List.set_cons_zero, List.set_cons_succ]
              refine held_take (i := 7) (v := ?_) rfl (by kernel_rfl) (by kernel_rfl) (by kernel_rfl) (fun _ _ _ h => h) (Or.inl ⟨by rfl, ?_⟩) hHeld ?_
              rotate_left
              · intro w hSw; obtain ⟨hS1, hS2, hS3⟩ := hSw; go_simp; (try with_reducible rfl)
              try simp only [Act.put, List.setIfInBounds_toArray, List.set_cons_zero, List.set_cons_succ]
              refine held_take (i := 8) (v := ?_) rfl (by kernel_rfl) (by kernel_rfl) (by kernel_rfl) (fun _ _ _ h => h) (Or.inl ⟨by rfl, ?_⟩) hHeld ?_
              rotate_left
              · intro w hSw; obtain ⟨hS1, hS2, hS3⟩ := hSw; go_simp; (try with_reducible rfl)
              try simp only [Act.put, List.setIfInBounds_toArray, List.set_cons_zero, List.set_cons_succ]
              refine held_take (i := 9) (v := ?_) rfl (by kernel_rfl) (by kernel_rfl) (by kernel_rfl) (fun _ _ _ h => h) (Or.inl ⟨by rfl, ?_⟩) hHeld ?_
              rotate_left
              · intro w hSw; obtain ⟨hS1, hS2, hS3⟩ := hSw; go_simp; (try with_reducible rfl)
              try simp only [Act.put, List.setIfInBounds_toArray, List.set_cons_zero, List.set_cons_succ]
              refine held_take (i := 11) (v := ?_) rfl (by kernel_rfl) (by kernel_rfl) (by kernel_rfl) (fun _ _ _ h => h) (Or.inl ⟨by rfl, ?_⟩) hHeld ?_
              rotate_left
              · intro w hSw; obtain ⟨hS1, hS2, hS3⟩ := hSw; go_simp; (try with_reducible rfl)
              try simp only [Act.put, List.setIfInBounds_toArray, List.set_cons_zero, List.set_cons_succ]
              have c2d : W.drew.cell? ⟨bx, 2, none⟩ = _ := c2
              have f2d : W.drew.frozen? ⟨bx, 2, none⟩ = _ := f2
              clear c2 f2 a0
              refine wpAnyH_ready (rs := [10, 12]) (by kernel_rfl) (by simp) ?_
              refine held_cons rfl (fun K hK => ?_) (held_cons rfl (fun K hK => ?_) AllReadyH.nil)
              · go_simp
                refine hK.out _ _ hHeld (fun _ => ?_)
                clear hK K
                try simp only [Act.put, List.setIfInBounds_toArray, List.set_cons_zero, List.set_cons_succ]
                refine wpAnyH_ready (rs := [12]) (by kernel_rfl) (by simp) ?_
                refine held_cons rfl (fun K hK => ?_) AllReadyH.nil
                go_simp
                refine HTr.out.mono ?_; rintro e w2 ⟨rfl, hb2⟩
                (try go_simp)
                have hbW : Below W.heap.size W w2 := Below.next (Below.refl _ _).drew hb2
                have hx2 := H1.out.1.below hbW
                have htx2 := hx2.tx
                rw [HTx.out.1] at htx2
                have c2 := hx2.blk.cell (i := 2) rfl
                have f2 := hx2.blk.frz 2
                have hHeld2 : (fun W => W.cell? ⟨bf, 0, none⟩ = some (.pointer (some ⟨bx, 0, none⟩)) ∧ True ∧ True) w2 := ⟨(hbW.cell (p := ⟨bf, 0, none⟩) H1.out.2.2.1).trans hHeld.1, trivial, trivial⟩
                refine hK.out _ _ hHeld2 (fun _ => ?_)
                clear hHeld hK K c2d f2d
                have hHeld := hHeld2
                clear hHeld2
                try simp only [Act.put, List.setIfInBounds_toArray, List.set_cons_zero, List.set_cons_succ]
                have hHeldA : (fun W => W.cell? ⟨bf, 0, none⟩ = some (.pointer (some ⟨bx, 0, none⟩)) ∧ True ∧ True) (w2.alloc (.cells #[.string TB] 9)) :=
                  ⟨((Below.new w2 (.cells #[.string TB] 9)).cell (p := ⟨bf, 0, none⟩) (Nat.lt_of_lt_of_le H1.out.2.2.1 hbW.size)).trans hHeld.1, trivial, trivial⟩
                have hownA : (w2.alloc (.cells #[.string TB] 9)).ownsRow base 9 1 (.slice tp n tc) n (strCells S.texts) := htx2.alloc _
                have hboxA : (w2.alloc (.cells #[.string TB] 9)).heap[w2.heap.size]? = _ := heap_alloc_new w2 _
                have hszA : (w2.alloc (.cells #[.string TB] 9)).heap.size = w2.heap.size + 1 := World.size_alloc _ _
                have HO : Hid (bf < w2.heap.size ∧ Value.ownBlock (.slice tp n tc) ≠ some bf ∧ bx < w2.heap.size ∧ Value.ownBlock (.slice tp n tc) ≠ some bx ∧ base ≤ w2.heap.size ∧ bf ≠ bx) := Lib.hid (by
                  have h := H1.out.2.2
                  have hs := hbW.size
                  exact ⟨by omega, h.2.1, by omega, h.2.2.2.1, by omega, h.2.2.2.2.2⟩)
                have HB0 := Lib.hid hHeld.1
                have H2 := Lib.hid (And.intro hbW hx2)
                have HA := Lib.hid (And.intro hHeldA (And.intro hownA (And.intro hboxA hszA)))
                clear hHeldA hownA hboxA hszA htx2 hbW hx2 hb2
                refine wpAnyH_ready (rs := [13]) (by kernel_rfl) (by simp) ?_
                refine held_cons rfl (fun K hK => ?_) AllReadyH.nil
                go_simp
                obtain ⟨hHeldA, hownA, hboxA, hszA⟩ := HA.out
                refine hK.out _ _ hHeldA (fun _ => ?_)
                clear hHeld hK K
                have hHeld := hHeldA
                clear hHeldA
                try simp only [Act.put, List.setIfInBounds_toArray, List.set_cons_zero, List.set_cons_succ]
                refine wpAnyH_ready (rs := [14]) (by kernel_rfl) (by simp) ?_
                refine held_cons rfl (fun K hK => step_app rfl _ _ 62 rfl TStrs base (.slice tp n tc) n (strCells S.texts) rfl hownA w2.heap.size 1 1 [.string TB] rfl _ hboxA rfl rfl (by simp [Value.oneCell']) Nat.one_pos (by omega) (by omega) (Nat.le_trans HO.out.2.2.2.2.1 (by show _ ≤ (w2.alloc _).heap.size; rw [World.size_alloc]; omega)) ?_) AllReadyH.nil
                intro g5 cap5 w5 happ
                have hold : ∀ j, j < w2.heap.size → Value.ownBlock (.slice tp n tc) ≠ some j → w5.heap[j]? = w2.heap[j]? := fun j hj hne => (happ.old (by rw [World.size_alloc]; omega) hne).trans (heap_alloc_old w2 _ hj)
                have e0 := hold bf HO.out.1 HO.out.2.1
                have e3 := hold bx HO.out.2.2.1 HO.out.2.2.2.1
                have hHeldB : (fun W => W.cell? ⟨bf, 0, none⟩ = some (.pointer (some ⟨bx, 0, none⟩)) ∧ True ∧ True) w5 := ⟨(World.cell?_of_block (a := ⟨bf, 0, none⟩) e0).trans HB0.out, trivial, trivial⟩
                have hc3 := (World.cell?_of_block (a := ⟨bx, 2, none⟩) e3).trans c2
                have hf3 := (World.frozen?_of_block (a := ⟨bx, 2, none⟩) e3).trans f2
                have H5 := Lib.hid happ
                refine hK.out _ _ hHeldB (fun _ => ?_)
                clear hHeld hK K happ hold e0 e3
                have hHeld := hHeldB
                clear hHeldB hownA hboxA hszA
                try simp only [Act.put, List.setIfInBounds_toArray, List.set_cons_zero, List.set_cons_succ]
                refine held_take (i := 15) (v := ?_) rfl (by kernel_rfl) (by kernel_rfl) (by kernel_rfl) (fun _ _ _ h => h) (Or.inl ⟨by rfl, ?_⟩) hHeld ?_
                rotate_left
                · intro w hSw; obtain ⟨hS1, hS2, hS3⟩ := hSw; go_simp; (try with_reducible rfl)
                try simp only [Act.put, List.setIfInBounds_toArray, List.set_cons_zero, List.set_cons_succ]
                refine held_take (i := 16) (v := ?_) rfl (by kernel_rfl) (by kernel_rfl) (by kernel_rfl) (fun _ _ _ h => h) (Or.inl ⟨by rfl, ?_⟩) hHeld ?_
                rotate_left
                · intro w hSw; obtain ⟨hS1, hS2, hS3⟩ := hSw; go_simp; (try with_reducible rfl)
                try simp only [Act.put, List.setIfInBounds_toArray, List.set_cons_zero, List.set_cons_succ]
                refine wpAnyH_ready (rs := [17]) (by kernel_rfl) (by simp) ?_
                refine held_cons rfl (fun K hK => ?_) AllReadyH.nil
                go_simp
                refine hK.out _ _ ⟨(World.cell?_setCell_far _ _ _ _ (fun e => HO.out.2.2.2.2.2 e.symm)).trans hHeld.1, trivial, trivial⟩ (fun _ => ?_)
                clear hK K
                try simp only [Act.put, List.setIfInBounds_toArray, List.set_cons_zero, List.set_cons_succ]
                refine wpAnyH_done (by kernel_rfl) ?_ _
                clear hc3 hf3 hHeld c2 f2
                have hend := H2.out.2.txApp (Below.new w2 (.cells #[.string TB] 9)) tt HTx.out.1 (by rw [HTx.out.2]; exact H5.out)
                have hUU := (Upd.below H2.out.1).trans hend.2
                have hfx : HasXF base bx bf tv (xFoot bx bm (.slice (some ⟨g5, 0, none⟩) (n + 1) cap5) vo) G (w5.setCell ⟨bx, 2, none⟩ (.slice (some ⟨g5, 0, none⟩) (n + 1) cap5)) { S with texts := S.texts ++ [tt] } P := HX.out.1.xon ⟨_, _, _, _, _, hend.1, rfl⟩ (by rw [hFF.out]; exact hUU)
                have HE6 := Lib.hid (And.intro hend.1 (And.intro hUU hfx))
                clear hend hUU hfx
                generalize w5.setCell ⟨bx, 2, none⟩ (.slice (some ⟨g5, 0, none⟩) (n + 1) cap5) = W6 at *
                obtain ⟨vc6, hf6, hG6⟩ := HE6.out.2.2.f
                clear hG6
                have a0 := hf6.blk.cell (i := 0) rfl
                have x1 := HE6.out.1.blk.cell (i := 1) rfl
                have x2 := HE6.out.1.blk.cell (i := 2) rfl
                clear hf6
                go_upto_region 6 with fail
                refine wp_region_still_tail 16 (by kernel_rfl) (by kernel_rfl) ?_
                simp only [List.take_succ_cons, List.take_zero, List.drop_succ_cons, List.drop_zero]
                change wpStill _ _ W6.drew (fun a' => wpList _ _ _ _ a' W6.drew) _ _
                have a0' : W6.drew.cell? ⟨bf, 0, none⟩ = _ := a0
                have x1' : W6.drew.cell? ⟨bx, 1, none⟩ = _ := x1
                have x2' : W6.drew.cell? ⟨bx, 2, none⟩ = _ := x2
                have HE7 := Lib.hid (And.intro HE6.out.1.drew (And.intro (HE6.out.2.1.trans (Upd.below (w := W6) (Below.refl _ _).drew)) (HE6.out.2.2.below (w' := W6.drew) (Below.refl _ _).drew)))
                clear a0 x1 x2 HE6
                generalize W6.drew = W7 at *
                repeat still_step
                try refine wpStill_nil ?_
                have hown := HE7.out.1.mp
                have hkm := HE7.out.1.kl
                clear a0' x1' x2'
                refine wpList_mapUpdate_own _ rfl _ _ _ 61 rfl 9 3 keyS Tryz.underlying61 _ bm k D rfl hown (by simp only [List.length_append, List.length_cons, List.length_nil, HTx.out.1] at hkm; unfold maxLen; omega) _ _ _ rfl rfl hkey _ [] (plainElem_int Tryz.underlying3 hwf) ?_
                intro w8 hown8 hgrow8
                have hput := HE7.out.1.mapPut (name rest) (n + 1) (by exact hown8) hgrow8 (by have h := H2.out.2.kl; show k + 1 ≤ (S.texts ++ [tt]).length; simp only [List.length_append, List.length_cons, List.length_nil]; omega)
                have HP8 := Lib.hid hput
                clear hput hown8 hgrow8 hown hkm
                go_wp2_with fail
                go_end0
                have hfin := HE7.out.2.2.xon ⟨_, _, _, _, _, HP8.out.1, rfl⟩ HP8.out.2
                refine ⟨xFoot bx bm (.slice (some ⟨g5, 0, none⟩) (n + 1) cap5) vo, G, rfl, ?_, ?_⟩
                · have h := hfin
                  rw [← HTx.out.1] at h
                  rw [← HR.out]; exact h
                · have := ((HE7.out.2.1.trans HP8.out.2).wide G)
                  rw [← hFF.out] at this
                  exact (Upd.below HX.out.2.1).trans this
              · go_simp
                refine HTr.out.mono ?_; rintro e w2 ⟨rfl, hb2⟩
                (try go_simp)
                have hbW : Below W.heap.size W w2 := Below.next (Below.refl _ _).drew hb2
                have hx2 := H1.out.1.below hbW
                have htx2 := hx2.tx
                rw [HTx.out.1] at htx2
                have c2 := hx2.blk.cell (i := 2) rfl
                have f2 := hx2.blk.frz 2
                have hHeld2 : (fun W => W.cell? ⟨bf, 0, none⟩ = some (.pointer (some ⟨bx, 0, none⟩)) ∧ True ∧ True) w2 := ⟨(hbW.cell (p := ⟨bf, 0, none⟩) H1.out.2.2.1).trans hHeld.1, trivial, trivial⟩
                refine hK.out _ _ hHeld2 (fun _ => ?_)
                clear hHeld hK K c2d f2d
                have hHeld := hHeld2
                clear hHeld2
                try simp only [Act.put, List.setIfInBounds_toArray, List.set_cons_zero, List.set_cons_succ]
                have hHeldA : (fun W => W.cell? ⟨bf, 0, none⟩ = some (.pointer (some ⟨bx, 0, none⟩)) ∧ True ∧ True) (w2.alloc (.cells #[.string TB] 9)) :=
                  ⟨((Below.new w2 (.cells #[.string TB] 9)).cell (p := ⟨bf, 0, none⟩) (Nat.lt_of_lt_of_le H1.out.2.2.1 hbW.size)).trans hHeld.1, trivial, trivial⟩
                have hownA : (w2.alloc (.cells #[.string TB] 9)).ownsRow base 9 1 (.slice tp n tc) n (strCells S.texts) := htx2.alloc _
                have hboxA : (w2.alloc (.cells #[.string TB] 9)).heap[w2.heap.size]? = _ := heap_alloc_new w2 _
                have hszA : (w2.alloc (.cells #[.string TB] 9)).heap.size = w2.heap.size + 1 := World.size_alloc _ _
                have HO : Hid (bf < w2.heap.size ∧ Value.ownBlock (.slice tp n tc) ≠ some bf ∧ bx < w2.heap.size ∧ Value.ownBlock (.slice tp n tc) ≠ some bx ∧ base ≤ w2.heap.size ∧ bf ≠ bx) := Lib.hid (by
                  have h := H1.out.2.2
                  have hs := hbW.size
                  exact ⟨by omega, h.2.1, by omega, h.2.2.2.1, by omega, h.2.2.2.2.2⟩)
                have HB0 := Lib.hid hHeld.1
                have H2 := Lib.hid (And.intro hbW hx2)
                have HA := Lib.hid (And.intro hHeldA (And.intro hownA (And.intro hboxA hszA)))
                clear hHeldA hownA hboxA hszA htx2 hbW hx2 hb2
                refine wpAnyH_ready (rs := [10, 13]) (by kernel_rfl) (by simp) ?_
                refine held_cons rfl (fun K hK => ?_) (held_cons rfl (fun K hK => ?_) AllReadyH.nil)
                · go_simp
                  refine hK.out _ _ hHeld (fun _ => ?_)
                  clear hK K
                  try simp only [Act.put, List.setIfInBounds_toArray, List.set_cons_zero, List.set_cons_succ]
                  refine wpAnyH_ready (rs := [13]) (by kernel_rfl) (by simp) ?_
                  refine held_cons rfl (fun K hK => ?_) AllReadyH.nil
                  go_simp
                  obtain ⟨hHeldA, hownA, hboxA, hszA⟩ := HA.out
                  refine hK.out _ _ hHeldA (fun _ => ?_)
                  clear hHeld hK K
                  have hHeld := hHeldA
                  clear hHeldA
                  try simp only [Act.put, List.setIfInBounds_toArray, List.set_cons_zero, List.set_cons_succ]
                  refine wpAnyH_ready (rs := [14]) (by kernel_rfl) (by simp) ?_
                  refine held_cons rfl (fun K hK => step_app rfl _ _ 62 rfl TStrs base (.slice tp n tc) n (strCells S.texts) rfl hownA w2.heap.size 1 1 [.string TB] rfl _ hboxA rfl rfl (by simp [Value.oneCell']) Nat.one_pos (by omega) (by omega) (Nat.le_trans HO.out.2.2.2.2.1 (by show _ ≤ (w2.alloc _).heap.size; rw [World.size_alloc]; omega)) ?_) AllReadyH.nil
                  intro g5 cap5 w5 happ
                  have hold : ∀ j, j < w2.heap.size → Value.ownBlock (.slice tp n tc) ≠ some j → w5.heap[j]? = w2.heap[j]? := fun j hj hne => (happ.old (by rw [World.size_alloc]; omega) hne).trans (heap_alloc_old w2 _ hj)
                  have e0 := hold bf HO.out.1 HO.out.2.1
                  have e3 := hold bx HO.out.2.2.1 HO.out.2.2.2.1
                  have hHeldB : (fun W => W.cell? ⟨bf, 0, none⟩ = some (.pointer (some ⟨bx, 0, none⟩)) ∧ True ∧ True) w5 := ⟨(World.cell?_of_block (a := ⟨bf, 0, none⟩) e0).trans HB0.out, trivial, trivial⟩
                  have hc3 := (World.cell?_of_block (a := ⟨bx, 2, none⟩) e3).trans c2
                  have hf3 := (World.frozen?_of_block (a := ⟨bx, 2, none⟩) e3).trans f2
                  have H5 := Lib.hid happ
                  refine hK.out _ _ hHeldB (fun _ => ?_)
                  clear hHeld hK K happ hold e0 e3
                  have hHeld := hHeldB
                  clear hHeldB hownA hboxA hszA
                  try simp only [Act.put, List.setIfInBounds_toArray, List.set_cons_zero, List.set_cons_succ]
                  refine held_take (i := 15) (v := ?_) rfl (by kernel_rfl) (by kernel_rfl) (by kernel_rfl) (fun _ _ _ h => h) (Or.inl ⟨by rfl, ?_⟩) hHeld ?_
                  rotate_left
                  · intro w hSw; obtain ⟨hS1, hS2, hS3⟩ := hSw; go_simp; (try with_reducible rfl)
                  try simp only [Act.put, List.setIfInBounds_toArray, List.set_cons_zero, List.set_cons_succ]
                  refine held_take (i := 16) (v := ?_) rfl (by kernel_rfl) (by kernel_rfl) (by kernel_rfl) (fun _ _ _ h => h) (Or.inl ⟨by rfl, ?_⟩) hHeld ?_
                  rotate_left
                  · intro w hSw; obtain ⟨hS1, hS2, hS3⟩ := hSw; go_simp; (try with_reducible rfl)
                  try simp only [Act.put, List.setIfInBounds_toArray, List.set_cons_zero, List.set_cons_succ]
                  refine wpAnyH_ready (rs := [17]) (by kernel_rfl) (by simp) ?_
                  refine held_cons rfl (fun K hK => ?_) AllReadyH.nil
                  go_simp
                  refine hK.out _ _ ⟨(World.cell?_setCell_far _ _ _ _ (fun e => HO.out.2.2.2.2.2 e.symm)).trans hHeld.1, trivial, trivial⟩ (fun _ => ?_)
                  clear hK K
                  try simp only [Act.put, List.setIfInBounds_toArray, List.set_cons_zero, List.set_cons_succ]
                  refine wpAnyH_done (by kernel_rfl) ?_ _
                  clear hc3 hf3 hHeld c2 f2
                  have hend := H2.out.2.txApp (Below.new w2 (.cells #[.string TB] 9)) tt HTx.out.1 (by rw [HTx.out.2]; exact H5.out)
                  have hUU := (Upd.below H2.out.1).trans hend.2
                  have hfx : HasXF base bx bf tv (xFoot bx bm (.slice (some ⟨g5, 0, none⟩) (n + 1) cap5) vo) G (w5.setCell ⟨bx, 2, none⟩ (.slice (some ⟨g5, 0, none⟩) (n + 1) cap5)) { S with texts := S.texts ++ [tt] } P := HX.out.1.xon ⟨_, _, _, _, _, hend.1, rfl⟩ (by rw [hFF.out]; exact hUU)
                  have HE6 := Lib.hid (And.intro hend.1 (And.intro hUU hfx))
                  clear hend hUU hfx
                  generalize w5.setCell ⟨bx, 2, none⟩ (.slice (some ⟨g5, 0, none⟩) (n + 1) cap5) = W6 at *
                  obtain ⟨vc6, hf6, hG6⟩ := HE6.out.2.2.f
                  clear hG6
                  have a0 := hf6.blk.cell (i := 0) rfl
                  have x1 := HE6.out.1.blk.cell (i := 1) rfl
                  have x2 := HE6.out.1.blk.cell (i := 2) rfl
                  clear hf6
                  go_upto_region 6 with fail
                  refine wp_region_still_tail 16 (by kernel_rfl) (by kernel_rfl) ?_
                  simp only [List.take_succ_cons, List.take_zero, List.drop_succ_cons, List.drop_zero]
                  change wpStill _ _ W6.drew (fun a' => wpList _ _ _ _ a' W6.drew) _ _
                  have a0' : W6.drew.cell? ⟨bf, 0, none⟩ = _ := a0
                  have x1' : W6.drew.cell? ⟨bx, 1, none⟩ = _ := x1
                  have x2' : W6.drew.cell? ⟨bx, 2, none⟩ = _ := x2
                  have HE7 := Lib.hid (And.intro HE6.out.1.drew (And.intro (HE6.out.2.1.trans (Upd.below (w := W6) (Below.refl _ _).drew)) (HE6.out.2.2.below (w' := W6.drew) (Below.refl _ _).drew)))
                  clear a0 x1 x2 HE6
                  generalize W6.drew = W7 at *
                  repeat still_step
                  try refine wpStill_nil ?_
                  have hown := HE7.out.1.mp
                  have hkm := HE7.out.1.kl
                  clear a0' x1' x2'
                  refine wpList_mapUpdate_own _ rfl _ _ _ 61 rfl 9 3 keyS Tryz.underlying61 _ bm k D rfl hown (by simp only [List.length_append, List.length_cons, List.length_nil, HTx.out.1] at hkm; unfold maxLen; omega) _ _ _ rfl rfl hkey _ [] (plainElem_int Tryz.underlying3 hwf) ?_
                  intro w8 hown8 hgrow8
                  have hput := HE7.out.1.mapPut (name rest) (n + 1) (by exact hown8) hgrow8 (by have h := H2.out.2.kl; show k + 1 ≤ (S.texts ++ [tt]).length; simp only [List.length_append, List.length_cons, List.length_nil]; omega)
                  have HP8 := Lib.hid hput
                  clear hput hown8 hgrow8 hown hkm
                  go_wp2_with fail
                  go_end0
                  have hfin := HE7.out.2.2.xon ⟨_, _, _, _, _, HP8.out.1, rfl⟩ HP8.out.2
                  refine ⟨xFoot bx bm (.slice (some ⟨g5, 0, none⟩) (n + 1) cap5) vo, G, rfl, ?_, ?_⟩
                  · have h := hfin
                    rw [← HTx.out.1] at h
                    rw [← HR.out]; exact h
                  · have := ((HE7.out.2.1.trans HP8.out.2).wide G)
                    rw [← hFF.out] at this
                    exact (Upd.below HX.out.2.1).trans this
                · go_simp
                  obtain ⟨hHeldA, hownA, hboxA, hszA⟩ := HA.out
                  refine hK.out _ _ hHeldA (fun _ => ?_)
                  clear hHeld hK K
                  have hHeld := hHeldA
                  clear hHeldA
                  try simp only [Act.put, List.setIfInBounds_toArray, List.set_cons_zero, List.set_cons_succ]
                  have c2A : (w2.alloc (.cells #[.string TB] 9)).cell? ⟨bx, 2, none⟩ = some (.slice tp n tc) := ((Below.new w2 _).cell (p := ⟨bx, 2, none⟩) HO.out.2.2.1).trans c2
                  refine wpAnyH_ready (rs := [10]) (by kernel_rfl) (by simp) ?_
                  refine held_cons rfl (fun K hK => ?_) AllReadyH.nil
                  go_simp
                  refine hK.out _ _ hHeld (fun _ => ?_)
                  clear hK K
                  try simp only [Act.put, List.setIfInBounds_toArray, List.set_cons_zero, List.set_cons_succ]
                  clear c2A
                  refine wpAnyH_ready (rs := [14]) (by kernel_rfl) (by simp) ?_
                  refine held_cons rfl (fun K hK => step_app rfl _ _ 62 rfl TStrs base (.slice tp n tc) n (strCells S.texts) rfl hownA w2.heap.size 1 1 [.string TB] rfl _ hboxA rfl rfl (by simp [Value.oneCell']) Nat.one_pos (by omega) (by omega) (Nat.le_trans HO.out.2.2.2.2.1 (by show _ ≤ (w2.alloc _).heap.size; rw [World.size_alloc]; omega)) ?_) AllReadyH.nil
                  intro g5 cap5 w5 happ
                  have hold : ∀ j, j < w2.heap.size → Value.ownBlock (.slice tp n tc) ≠ some j → w5.heap[j]? = w2.heap[j]? := fun j hj hne => (happ.old (by rw [World.size_alloc]; omega) hne).trans (heap_alloc_old w2 _ hj)
                  have e0 := hold bf HO.out.1 HO.out.2.1
                  have e3 := hold bx HO.out.2.2.1 HO.out.2.2.2.1
                  have hHeldB : (fun W => W.cell? ⟨bf, 0, none⟩ = some (.pointer (some ⟨bx, 0, none⟩)) ∧ True ∧ True) w5 := ⟨(World.cell?_of_block (a := ⟨bf, 0, none⟩) e0).trans HB0.out, trivial, trivial⟩
                  have hc3 := (World.cell?_of_block (a := ⟨bx, 2, none⟩) e3).trans c2
                  have hf3 := (World.frozen?_of_block (a := ⟨bx, 2, none⟩) e3).trans f2
                  have H5 := Lib.hid happ
                  refine hK.out _ _ hHeldB (fun _ => ?_)
                  clear hHeld hK K happ hold e0 e3
                  have hHeld := hHeldB
                  clear hHeldB hownA hboxA hszA
                  try simp only [Act.put, List.setIfInBounds_toArray, List.set_cons_zero, List.set_cons_succ]
                  refine held_take (i := 15) (v := ?_) rfl (by kernel_rfl) (by kernel_rfl) (by kernel_rfl) (fun _ _ _ h => h) (Or.inl ⟨by rfl, ?_⟩) hHeld ?_
                  rotate_left
                  · intro w hSw; obtain ⟨hS1, hS2, hS3⟩ := hSw; go_simp; (try with_reducible rfl)
                  try simp only [Act.put, List.setIfInBounds_toArray, List.set_cons_zero, List.set_cons_succ]
                  refine held_take (i := 16) (v := ?_) rfl (by kernel_rfl) (by kernel_rfl) (by kernel_rfl) (fun _ _ _ h => h) (Or.inl ⟨by rfl, ?_⟩) hHeld ?_
                  rotate_left
                  · intro w hSw; obtain ⟨hS1, hS2, hS3⟩ := hSw; go_simp; (try with_reducible rfl)
                  try simp only [Act.put, List.setIfInBounds_toArray, List.set_cons_zero, List.set_cons_succ]
                  refine wpAnyH_ready (rs := [17]) (by kernel_rfl) (by simp) ?_
                  refine held_cons rfl (fun K hK => ?_) AllReadyH.nil
                  go_simp
                  refine hK.out _ _ ⟨(World.cell?_setCell_far _ _ _ _ (fun e => HO.out.2.2.2.2.2 e.symm)).trans hHeld.1, trivial, trivial⟩ (fun _ => ?_)
                  clear hK K
                  try simp only [Act.put, List.setIfInBounds_toArray, List.set_cons_zero, List.set_cons_succ]
                  refine wpAnyH_done (by kernel_rfl) ?_ _
                  clear hc3 hf3 hHeld c2 f2
                  have hend := H2.out.2.txApp (Below.new w2 (.cells #[.string TB] 9)) tt HTx.out.1 (by rw [HTx.out.2]; exact H5.out)
                  have hUU := (Upd.below H2.out.1).trans hend.2
                  have hfx : HasXF base bx bf tv (xFoot bx bm (.slice (some ⟨g5, 0, none⟩) (n + 1) cap5) vo) G (w5.setCell ⟨bx, 2, none⟩ (.slice (some ⟨g5, 0, none⟩) (n + 1) cap5)) { S with texts := S.texts ++ [tt] } P := HX.out.1.xon ⟨_, _, _, _, _, hend.1, rfl⟩ (by rw [hFF.out]; exact hUU)
                  have HE6 := Lib.hid (And.intro hend.1 (And.intro hUU hfx))
                  clear hend hUU hfx
                  generalize w5.setCell ⟨bx, 2, none⟩ (.slice (some ⟨g5, 0, none⟩) (n + 1) cap5) = W6 at *
                  obtain ⟨vc6, hf6, hG6⟩ := HE6.out.2.2.f
                  clear hG6
                  have a0 := hf6.blk.cell (i := 0) rfl
                  have x1 := HE6.out.1.blk.cell (i := 1) rfl
                  have x2 := HE6.out.1.blk.cell (i := 2) rfl
                  clear hf6
                  go_upto_region 6 with fail
                  refine wp_region_still_tail 16 (by kernel_rfl) (by kernel_rfl) ?_
                  simp only [List.take_succ_cons, List.take_zero, List.drop_succ_cons, List.drop_zero]
                  change wpStill _ _ W6.drew (fun a' => wpList _ _ _ _ a' W6.drew) _ _
                  have a0' : W6.drew.cell? ⟨bf, 0, none⟩ = _ := a0
                  have x1' : W6.drew.cell? ⟨bx, 1, none⟩ = _ := x1
                  have x2' : W6.drew.cell? ⟨bx, 2, none⟩ = _ := x2
                  have HE7 := Lib.hid (And.intro HE6.out.1.drew (And.intro (HE6.out.2.1.trans (Upd.below (w := W6) (Below.refl _ _).drew)) (HE6.out.2.2.below (w' := W6.drew) (Below.refl _ _).drew)))
                  clear a0 x1 x2 HE6
                  generalize W6.drew = W7 at *
                  repeat still_step
                  try refine wpStill_nil ?_
                  have hown := HE7.out.1.mp
                  have hkm := HE7.out.1.kl
                  clear a0' x1' x2'
                  refine wpList_mapUpdate_own _ rfl _ _ _ 61 rfl 9 3 keyS Tryz.underlying61 _ bm k D rfl hown (by simp only [List.length_append, List.length_cons, List.length_nil, HTx.out.1] at hkm; unfold maxLen; omega) _ _ _ rfl rfl hkey _ [] (plainElem_int Tryz.underlying3 hwf) ?_
                  intro w8 hown8 hgrow8
                  have hput := HE7.out.1.mapPut (name rest) (n + 1) (by exact hown8) hgrow8 (by have h := H2.out.2.kl; show k + 1 ≤ (S.texts ++ [tt]).length; simp only [List.length_append, List.length_cons, List.length_nil]; omega)
                  have HP8 := Lib.hid hput
                  clear hput hown8 hgrow8 hown hkm
                  go_wp2_with fail
                  go_end0
                  have hfin := HE7.out.2.2.xon ⟨_, _, _, _, _, HP8.out.1, rfl⟩ HP8.out.2
                  refine ⟨xFoot bx bm (.slice (some ⟨g5, 0, none⟩) (n + 1) cap5) vo, G, rfl, ?_, ?_⟩
                  · have h := hfin
                    rw [← HTx.out.1] at h
                    rw [← HR.out]; exact h
                  · have := ((HE7.out.2.1.trans HP8.out.2).wide G)
                    rw [← hFF.out] at this
                    exact (Upd.below HX.out.2.1).trans this
end Go.Proofs.YtcjfelndnnhgjaaGreatDoor
