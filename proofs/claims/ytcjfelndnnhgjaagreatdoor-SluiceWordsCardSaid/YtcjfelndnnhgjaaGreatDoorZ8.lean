/- Texts of this claim, one behind another: E16. They state lemmas; each names its own conditions. -/
import Derived.Test.YtcjfelndnnhgjaaGreatDoorZ7
namespace Go.Proofs.YtcjfelndnnhgjaaGreatDoor
set_option linter.unusedVariables false
open Go.RowKit Go.Maps

theorem held_take {P : Program} {md : Region.Mode} {ops : Array Oper} {Q : Exit → Act → World → Prop} {S : World → Prop} {i : Nat} {oi : Oper} {v : Value} {fuel : Nat} {listed : Array Bool} {a : Act} {w : World} (hi : ops.toList[i]? = some oi)
    (hs : Region.noSelect ops = true) (hf : Region.free md ops listed i = true) (hr : (Region.ready md ops listed).contains i = true)
    (hQ : ∀ c a w, Q (.panic c) (a.put oi.dst v) w → Q (.panic c) a w) (hy : YieldsIf P ops S oi v a) (hS : S w)
    (h : wpAnyH P md ops Q S fuel (listed.setIfInBounds i true) (a.put oi.dst v) w) : wpAnyH P md ops Q S (fuel + 1) listed a w :=
  wpAnyH_take (by simpa using hi) hs hf hr hQ hy hS h
theorem held_cons {P : Program} {md : Region.Mode} {ops : Array Oper} {Q : Exit → Act → World → Prop} {S : World → Prop} {fuel : Nat} {listed : Array Bool} {a : Act} {w : World} {i : Nat} {o : Oper} {rs : List Nat} (ho : ops.toList[i]? = some o)
    (h : ∀ K' : Act → World → Prop, Shut (∀ a w, S w → (S w → wpAnyH P md ops Q S fuel (listed.setIfInBounds i true) a w) → K' a w) → if Region.wanted o (yielded ops a.tmps) = true then Oper.wp P o a w K' Q else K' (a.put o.dst undef) w)
    (hs : AllReadyH P md ops Q S fuel listed a w rs) : AllReadyH P md ops Q S fuel listed a w (i :: rs) :=
  AllReadyH.cons (by simpa using ho) h hs
/-- the box of a place, which a region's loads read -/
def BoxS (bo : Nat) (f l c : Int) (W : World) : Prop := W.cell? ⟨bo, 0, none⟩ = some (.int .i64 f) ∧ W.cell? ⟨bo, 1, none⟩ = some (.int .i64 l) ∧ W.cell? ⟨bo, 2, none⟩ = some (.int .i64 c)
set_option maxRecDepth 100000 in
set_option maxHeartbeats 8000000 in
theorem cond_if {w : World} {base bx bf : Nat} {tv : Value} {F G : Nat → Prop} {S : Xs} {P : Fs} (h : HasXF base bx bf tv F G w S P) (hb : base ≤ w.heap.size) (word rest : Bs) (f l c : Int) (apart : Bool)
    (hword : word = wIfdef ∨ word = wIfndef ∨ word = wElse ∨ word = wEndif) (hrest : rest.length ≤ 1000000) (hcl : P.conds.length ≤ 90000) (hw12 : word = wIfdef ∨ word = wIfndef) :
    Calls Tryz.prog 66 #[.pointer (some ⟨bf, 0, none⟩), .string (bstr word), .string (bstr rest), .agg #[.int .i64 f, .int .i64 l, .int .i64 c], .bool apart] w (FR base bx bf tv F G w (condP S P word rest f l c apart).1 (condP S P word rest f l c apart).2 (.tuple #[])) := by
  have hb1 := Below.new w (.cells #[.int .i64 f, .int .i64 l, .int .i64 c] 32)
  have k1 : Blk (w.alloc (.cells #[.int .i64 f, .int .i64 l, .int .i64 c] 32)) w.heap.size 32 [.int .i64 f, .int .i64 l, .int .i64 c] := Blk.new _ _
  have h1 := h.below hb1
  have hbox : ∀ g, F g ∨ G g → g ≠ w.heap.size := by
    intro g hg
    rcases hg with hg | hg
    · have := (h.x.lt g hg).2; omega
    · have := (h.f.lt g hg).2; omega
  have hq1 := bstr_is word wIfdef
  have hq2 := bstr_is word wIfndef
  have hq3 := bstr_is word wElse
  unfold wIfdef at hq1
  unfold wIfndef at hq2
  unfold wElse at hq3
  have hwi : decide (word = [105, 102, 100, 101, 102]) = decide (word = wIfdef) := rfl
  have hwn : decide (word = [105, 102, 110, 100, 101, 102]) = decide (word = wIfndef) := rfl
  have hwe : decide (word = [101, 108, 115, 101]) = decide (word = wElse) := rfl
  rw [hwi] at hq1
  rw [hwn] at hq2
  rw [hwe] at hq3
  obtain ⟨vc, hf, hG⟩ := h1.f
  obtain ⟨po, co, rfl, hco⟩ := ownsRow_le hf.cs
  have a0 := hf.blk.cell (i := 0) rfl
  have a2 := hf.blk.cell (i := 2) rfl
  have e0 := k1.cell (i := 0) rfl
  have e1 := k1.cell (i := 1) rfl
  have e2 := k1.cell (i := 2) rfl
  obtain ⟨m, hm⟩ : ∃ m, P.conds.length = m := ⟨_, rfl⟩
  rw [hm] at a2
  have hcs := hf.cs
  rw [hm] at hcs hco hf hG
  have hmw : P.conds.length = m := hm
  obtain ⟨R, hR⟩ : ∃ R, condP S P word rest f l c apart = R := ⟨_, rfl⟩
  rw [hR]
  have HX := Lib.hid (And.intro h1 (And.intro hb1 (And.intro k1 (And.intro hb (And.intro hbox (And.intro hf (And.intro hG hco)))))))
  have HM := Lib.hid (And.intro hm (And.intro hcl hrest))
  generalize hWW : w.alloc (.cells #[.int .i64 f, .int .i64 l, .int .i64 c] 32) = W at *
  have HWW := Lib.hid hWW
  obtain ⟨bo, hbo⟩ : ∃ bo, w.heap.size = bo := ⟨_, rfl⟩
  obtain ⟨WD, hWD⟩ : ∃ WD, bstr word = WD := ⟨_, rfl⟩
  obtain ⟨RT, hRT⟩ : ∃ RT, bstr rest = RT := ⟨_, rfl⟩
  rw [hWD] at hq1 hq2 hq3 ⊢
  rw [hRT]
  rw [hbo] at e0 e1 e2
  have HB := Lib.hid (And.intro hbo (And.intro hWD hRT))
  have HW := Lib.hid hword
  have hms : (m : Int) ≤ 90000 := by omega
  have HR0 := Lib.hid hR
  clear h hb1 k1 h1 hbox hf hG hco hm hmw hb hcs hcl hrest hWD hRT hword hR
  have HR1 := HR0.out
  unfold condP at HR1
  rw [if_pos hw12] at HR1
  have HNm := Lib.hid (fun W' => name_any (w := W') rest HM.out.2.2)
  rw [HB.out.2.2] at HNm
  have hcmp := bstr_cmp (name rest) rest
  rw [HB.out.2.2] at hcmp
  by_cases hap : apart = false
  · subst hap
    rw [if_pos (.inl rfl)] at HR1
    have HR := Lib.hid HR1.symm
    rcases hw12 with hw | hw
    · rw [decide_eq_true hw] at hq1
      clear HR1 hcmp hw
      go_enter Tryz.func66, Tryz.ntmps66
      go_upto_region 9 with fail
      refine wp_region_still_tail 5 (by kernel_rfl) (by kernel_rfl) ?_
      simp only [List.take_succ_cons, List.take_zero, List.drop_succ_cons, List.drop_zero]
      change wpStill _ _ W.drew (fun a' => wpList _ _ _ _ a' W.drew) _ _
      have a0' : W.drew.cell? ⟨bf, 0, none⟩ = _ := a0
      have e0' : W.drew.cell? ⟨bo, 0, none⟩ = _ := e0
      have e1' : W.drew.cell? ⟨bo, 1, none⟩ = _ := e1
      have e2' : W.drew.cell? ⟨bo, 2, none⟩ = _ := e2
      have H10 : Hid (HasXF base bx bf tv F G W.drew S P ∧ Upd (fun g => F g ∨ G g) (fun g => F g ∨ G g) w W.drew) := Lib.hid ⟨HX.out.1.below (Below.refl _ _).drew, (Upd.below HX.out.2.1).trans (Upd.below (w := W) (Below.refl _ _).drew)⟩
      clear a0 a2 e0 e1 e2 hWW hbo
      generalize W.drew = W4 at *
      repeat still_step
      try refine wpStill_nil ?_
      go_wp2_with fail
      refine (fail_any H10.out.1.x f l c 5).mono ?_; rintro e w5 ⟨F5, rfl, hx5, hu5⟩
      have H5 := Lib.hid (And.intro (H10.out.1.xon hx5 hu5) (hu5.wide G))
      clear hx5 hu5
      go_wp2_with fail
      go_end0
      exact ⟨F5, G, rfl, by rw [HR.out]; exact H5.out.1, H10.out.2.trans H5.out.2⟩
    · rw [decide_eq_true hw] at hq2
      have hw1 : ¬ word = wIfdef := by rw [hw]; decide
      rw [decide_eq_false hw1] at hq1
      clear HR1 hcmp hw hw1
      go_enter Tryz.func66, Tryz.ntmps66
      go_upto_region 9 with fail
      refine wp_region_still_tail 5 (by kernel_rfl) (by kernel_rfl) ?_
      simp only [List.take_succ_cons, List.take_zero, List.drop_succ_cons, List.drop_zero]
      change wpStill _ _ W.drew (fun a' => wpList _ _ _ _ a' W.drew) _ _
      have a0' : W.drew.cell? ⟨bf, 0, none⟩ = _ := a0
      have e0' : W.drew.cell? ⟨bo, 0, none⟩ = _ := e0
      have e1' : W.drew.cell? ⟨bo, 1, none⟩ = _ := e1
      have e2' : W.drew.cell? ⟨bo, 2, none⟩ = _ := e2
      have H10 : Hid (HasXF base bx bf tv F G W.drew S P ∧ Upd (fun g => F g ∨ G g) (fun g => F g ∨ G g) w W.drew) := Lib.hid ⟨HX.out.1.below (Below.refl _ _).drew, (Upd.below HX.out.2.1).trans (Upd.below (w := W) (Below.refl _ _).drew)⟩
      clear a0 a2 e0 e1 e2 hWW hbo
      generalize W.drew = W4 at *
      repeat still_step
      try refine wpStill_nil ?_
      go_wp2_with fail
      refine (fail_any H10.out.1.x f l c 5).mono ?_; rintro e w5 ⟨F5, rfl, hx5, hu5⟩
      have H5 := Lib.hid (And.intro (H10.out.1.xon hx5 hu5) (hu5.wide G))
      clear hx5 hu5
      go_wp2_with fail
      go_end0
      exact ⟨F5, G, rfl, by rw [HR.out]; exact H5.out.1, H10.out.2.trans H5.out.2⟩
  · have hap' : apart = true := by simpa using hap
    subst hap'
    by_cases hrn : rest = []
    · have hrt : RT.toList = [] := by rw [← HB.out.2.2, bstr_toList]; exact hrn
      have hrt2 : RT.toList.isEmpty = true := by rw [hrt]; rfl
      rw [if_pos (.inr (.inl hrn))] at HR1
      have HR := Lib.hid HR1.symm
      rcases hw12 with hw | hw
      · rw [decide_eq_true hw] at hq1
        clear HR1 hcmp hw hrn hap
        go_enter Tryz.func66, Tryz.ntmps66
        go_upto_region 9 with fail
        refine wp_region_still_tail 5 (by kernel_rfl) (by kernel_rfl) ?_
        simp only [List.take_succ_cons, List.take_zero, List.drop_succ_cons, List.drop_zero]
        change wpStill _ _ W.drew (fun a' => wpList _ _ _ _ a' W.drew) _ _
        have a0' : W.drew.cell? ⟨bf, 0, none⟩ = _ := a0
        have e0' : W.drew.cell? ⟨bo, 0, none⟩ = _ := e0
        have e1' : W.drew.cell? ⟨bo, 1, none⟩ = _ := e1
        have e2' : W.drew.cell? ⟨bo, 2, none⟩ = _ := e2
        have H10 : Hid (HasXF base bx bf tv F G W.drew S P ∧ Upd (fun g => F g ∨ G g) (fun g => F g ∨ G g) w W.drew) := Lib.hid ⟨HX.out.1.below (Below.refl _ _).drew, (Upd.below HX.out.2.1).trans (Upd.below (w := W) (Below.refl _ _).drew)⟩
        clear a0 a2 e0 e1 e2 hWW hbo
        generalize W.drew = W4 at *
        repeat still_step
        try refine wpStill_nil ?_
        go_wp2_with fail
        refine (fail_any H10.out.1.x f l c 5).mono ?_; rintro e w5 ⟨F5, rfl, hx5, hu5⟩
        have H5 := Lib.hid (And.intro (H10.out.1.xon hx5 hu5) (hu5.wide G))
        clear hx5 hu5
        go_wp2_with fail
        go_end0
        exact ⟨F5, G, rfl, by rw [HR.out]; exact H5.out.1, H10.out.2.trans H5.out.2⟩
      · rw [decide_eq_true hw] at hq2
        have hw1 : ¬ word = wIfdef := by rw [hw]; decide
        rw [decide_eq_false hw1] at hq1
        clear HR1 hcmp hw hw1 hrn hap
        go_enter Tryz.func66, Tryz.ntmps66
        go_upto_region 9 with fail
        refine wp_region_still_tail 5 (by kernel_rfl) (by kernel_rfl) ?_
        simp only [List.take_succ_cons, List.take_zero, List.drop_succ_cons, List.drop_zero]
        change wpStill _ _ W.drew (fun a' => wpList _ _ _ _ a' W.drew) _ _
        have a0' : W.drew.cell? ⟨bf, 0, none⟩ = _ := a0
        have e0' : W.drew.cell? ⟨bo, 0, none⟩ = _ := e0
        have e1' : W.drew.cell? ⟨bo, 1, none⟩ = _ := e1
        have e2' : W.drew.cell? ⟨bo, 2, none⟩ = _ := e2
        have H10 : Hid (HasXF base bx bf tv F G W.drew S P ∧ Upd (fun g => F g ∨ G g) (fun g => F g ∨ G g) w W.drew) := Lib.hid ⟨HX.out.1.below (Below.refl _ _).drew, (Upd.below HX.out.2.1).trans (Upd.below (w := W) (Below.refl _ _).drew)⟩
        clear a0 a2 e0 e1 e2 hWW hbo
        generalize W.drew = W4 at *
        repeat still_step
        try refine wpStill_nil ?_
        go_wp2_with fail
        refine (fail_any H10.out.1.x f l c 5).mono ?_; rintro e w5 ⟨F5, rfl, hx5, hu5⟩
        have H5 := Lib.hid (And.intro (H10.out.1.xon hx5 hu5) (hu5.wide G))
        clear hx5 hu5
        go_wp2_with fail
        go_end0
        exact ⟨F5, G, rfl, by rw [HR.out]; exact H5.out.1, H10.out.2.trans H5.out.2⟩
    · have hrt : (RT.toList.isEmpty) = false := by rw [← HB.out.2.2]; exact (bstr_ne hrn).2
      have hrt2 : ¬ RT.toList = [] := by rw [← HB.out.2.2]; exact (bstr_ne hrn).1
      by_cases hnm : name rest = rest
      · rw [decide_eq_true hnm] at hcmp
        rw [if_neg (by rintro (h | h | h); cases h; exact hrn h; exact h hnm)] at HR1
        have HRc : Hid (∀ x y : Bool, (countsP P && (decide (0 < S.defs rest) == decide (word = wIfdef))) = x → countsP P = y → R = (S, { P with conds := P.conds ++ [⟨f, l, c, x, y, false⟩] })) := Lib.hid (fun x y hx hy => by rw [← HR1, ← hx, ← hy])
        have hkey := key_of rest HM.out.2.2
        rw [HB.out.2.2] at hkey
        rw [hnm, HB.out.2.2] at HNm
        clear hcmp hnm
        obtain ⟨K, hK⟩ : ∃ K, S.defs rest = K := ⟨_, rfl⟩
        have HK := Lib.hid hK
        have HBo := Lib.hid hbo
        obtain ⟨kb, hkb⟩ : ∃ kb, decide (0 < K) = kb := ⟨_, rfl⟩
        have hkb2 : decide ((0 : Int) < (K : Int)) = kb := by rw [← hkb]; congr 1; apply propext; omega
        clear HR1 hrn hap hK
        have HKb := Lib.hid hkb
        rcases hw12 with hw | hw
        · rw [decide_eq_true hw] at hq1
          have HW1 := Lib.hid (decide_eq_true hw)
          clear hw
          cases kb
          · go_enter Tryz.func66, Tryz.ntmps66
            go_wp2_with fail
            refine (HNm.out _).mono ?_; rintro e wn ⟨rfl, rfl⟩
            go_wp2_with fail
            refine (counts_any HX.out.1.f).mono ?_; rintro e w2 ⟨rfl, hb2⟩
            have h2 := HX.out.1.below hb2
            have hb0 := Below.next HX.out.2.1 hb2
            have k2 := HX.out.2.2.1.next hb2
            have hf2 := HX.out.2.2.2.2.2.1.below hb2
            obtain ⟨bm, vt, vo, k, D, hx, hF⟩ := h2.x
            have x1 := hx.blk.cell (i := 1) rfl
            have hown := hx.mp
            have hdk := hx.dk rest
            rw [HK.out] at hdk
            rw [HBo.out] at k2
            have hk2 := k2
            have hbo1 : Value.ownBlock (.slice po m co) ≠ some bo := fun e => HX.out.2.2.2.2.1 bo (.inr (by rw [HX.out.2.2.2.2.2.2.1]; exact .inr e)) HBo.out.symm
            have hbo2 : bf ≠ bo := fun e => HX.out.2.2.2.2.1 bf (.inr (by rw [HX.out.2.2.2.2.2.2.1]; exact .inl rfl)) (e.trans HBo.out.symm)
            have f2 := hf2.blk.frz 2
            have c0 := hf2.blk.cell (i := 0) rfl
            have c2 := hf2.blk.cell (i := 2) rfl
            have d0 := k2.cell (i := 0) rfl
            have d1 := k2.cell (i := 1) rfl
            have d2 := k2.cell (i := 2) rfl
            have hcs2 := hf2.cs
            rw [HM.out.1] at hcs2
            have hne := hf2.ne
            have hlt2 := hf2.blk.lt
            have H2 := Lib.hid (And.intro h2 (And.intro hb0 hf2))
            obtain ⟨av, hav⟩ : ∃ av, countsP P = av := ⟨_, rfl⟩
            rw [hav]
            have HAV := Lib.hid hav
            clear h2 hb0 k2 hf2 hx hF hb2 a0 a2 e0 e1 e2 hav
            go_upto_region 12 with (first
                | (at_lookup; refine wpList_lookup_own_int _ rfl _ _ 61 rfl 9 3 .i64 keyS Tryz.underlying61 Tryz.underlying3 (zeroInt _) bm k D rfl hown _ _ rfl hkey ?_; intro c2 hat hwc; obtain rfl : c2 = (K : Int) := by (rw [hdk] at hat; injection hat with hat; injection hat with _ hat; exact hat.symm))
                | fail)
            clear hown hkey hdk x1
            have hbase : base ≤ w2.heap.size := by have := H2.out.2.2.gf; omega
            have HO := Lib.hid (And.intro hcs2 (And.intro hne (And.intro hlt2 hbase)))
            have HBx : Hid (bo < w2.heap.size ∧ Value.ownBlock (.slice po m co) ≠ some bo ∧ bf ≠ bo) := Lib.hid ⟨some_lt hk2, hbo1, hbo2⟩
            refine wp_region_held_drew (S := fun W => W.cell? ⟨bo, 0, none⟩ = some (.int .i64 f) ∧ W.cell? ⟨bo, 1, none⟩ = some (.int .i64 l) ∧ W.cell? ⟨bo, 2, none⟩ = some (.int .i64 c)) (by kernel_rfl) ?_ (fun hHeld => ?_)
            · exact ⟨d0, d1, d2⟩
            clear hcs2 hne hlt2 hk2 hbo1 hbo2 d0 d1 d2
            refine held_take (i := 0) (v := ?_) rfl (by kernel_rfl) (by kernel_rfl) (by kernel_rfl) (fun _ _ _ h => h) (Or.inl ⟨by rfl, ?_⟩) hHeld ?_
            rotate_left
            · intro w hSw; obtain ⟨hS1, hS2, hS3⟩ := hSw; go_simp; (try with_reducible rfl)
            try simp only [Act.put, List.setIfInBounds_toArray, List.set_cons_zero, List.set_cons_succ]
            refine held_take (i := 1) (v := ?_) rfl (by kernel_rfl) (by kernel_rfl) (by kernel_rfl) (fun _ _ _ h => h) (Or.inl ⟨by rfl, ?_⟩) hHeld ?_
            rotate_left
            · intro w hSw; obtain ⟨hS1, hS2, hS3⟩ := hSw; go_simp; (try with_reducible rfl)
            try simp only [Act.put, List.setIfInBounds_toArray, List.set_cons_zero, List.set_cons_succ]
            refine held_take (i := 2) (v := ?_) rfl (by kernel_rfl) (by kernel_rfl) (by kernel_rfl) (fun _ _ _ h => h) (Or.inl ⟨by rfl, ?_⟩) hHeld ?_
            rotate_left
            · intro w hSw; obtain ⟨hS1, hS2, hS3⟩ := hSw; go_simp; (try with_reducible rfl)
            try simp only [Act.put, List.setIfInBounds_toArray, List.set_cons_zero, List.set_cons_succ]
            refine held_take (i := 3) (v := ?_) rfl (by kernel_rfl) (by kernel_rfl) (by kernel_rfl) (fun _ _ _ h => h) (Or.inl ⟨by rfl, ?_⟩) hHeld ?_
            rotate_left
            · intro w hSw; obtain ⟨hS1, hS2, hS3⟩ := hSw; go_simp; (try with_reducible rfl)
            try simp only [Act.put, List.setIfInBounds_toArray, List.set_cons_zero, List.set_cons_succ]
            refine held_take (i := 5) (v := ?_) rfl (by kernel_rfl) (by kernel_rfl) (by kernel_rfl) (fun _ _ _ h => h) (Or.inl ⟨by rfl, ?_⟩) hHeld ?_
            rotate_left
            · intro w hSw; obtain ⟨hS1, hS2, hS3⟩ := hSw; go_simp; (try with_reducible rfl)
            try simp only [Act.put, List.setIfInBounds_toArray, List.set_cons_zero, List.set_cons_succ]
            refine held_take (i := 6) (v := ?_) rfl (by kernel_rfl) (by kernel_rfl) (by kernel_rfl) (fun _ _ _ h => h) (Or.inl ⟨by rfl, ?_⟩) hHeld ?_
            rotate_left
            · intro w hSw; obtain ⟨hS1, hS2, hS3⟩ := hSw; go_simp; (try with_reducible rfl)
            try simp only [Act.put, List.setIfInBounds_toArray, List.set_cons_zero, List.set_cons_succ]
            refine held_take (i := 7) (v := ?_) rfl (by kernel_rfl) (by kernel_rfl) (by kernel_rfl) (fun _ _ _ h => h) (Or.inl ⟨by rfl, ?_⟩) hHeld ?_
            rotate_left
            · intro w hSw; obtain ⟨hS1, hS2, hS3⟩ := hSw; go_simp; (try with_reducible rfl)
            try simp only [Act.put, List.setIfInBounds_toArray, List.set_cons_zero, List.set_cons_succ]
            cases av
            · refine held_take (i := 8) rfl (by kernel_rfl) (by kernel_rfl) (by kernel_rfl) (fun _ _ _ h => h) (Or.inr ⟨by rfl, rfl⟩) hHeld ?_
              try simp only [Act.put, List.setIfInBounds_toArray, List.set_cons_zero, List.set_cons_succ]
              refine held_take (i := 9) (v := ?_) rfl (by kernel_rfl) (by kernel_rfl) (by kernel_rfl) (fun _ _ _ h => h) (Or.inl ⟨by rfl, ?_⟩) hHeld ?_
              rotate_left
              · intro w hSw; obtain ⟨hS1, hS2, hS3⟩ := hSw; go_simp; (try with_reducible rfl)
              try simp only [Act.put, List.setIfInBounds_toArray, List.set_cons_zero, List.set_cons_succ]
              refine held_take (i := 10) (v := ?_) rfl (by kernel_rfl) (by kernel_rfl) (by kernel_rfl) (fun _ _ _ h => h) (Or.inl ⟨by rfl, ?_⟩) hHeld ?_
              rotate_left
              · intro w hSw; obtain ⟨hS1, hS2, hS3⟩ := hSw; go_simp; (try with_reducible rfl)
              try simp only [Act.put, List.setIfInBounds_toArray, List.set_cons_zero, List.set_cons_succ]
              refine held_take (i := 11) (v := ?_) rfl (by kernel_rfl) (by kernel_rfl) (by kernel_rfl) (fun _ _ _ h => h) (Or.inl ⟨by rfl, ?_⟩) hHeld ?_
              rotate_left
              · intro w hSw; obtain ⟨hS1, hS2, hS3⟩ := hSw; go_simp; (try with_reducible rfl)
              try simp only [Act.put, List.setIfInBounds_toArray, List.set_cons_zero, List.set_cons_succ]
              have hHeldA : (fun W => W.cell? ⟨bo, 0, none⟩ = some (.int .i64 f) ∧ W.cell? ⟨bo, 1, none⟩ = some (.int .i64 l) ∧ W.cell? ⟨bo, 2, none⟩ = some (.int .i64 c)) (w2.alloc (.cells #[.int .i64 f, .int .i64 l, .int .i64 c, .bool false, .bool false, .bool false] 90)).drew := by
                have hbA := (Below.new w2 (.cells #[.int .i64 f, .int .i64 l, .int .i64 c, .bool false, .bool false, .bool false] 90)).drew
                exact ⟨(hbA.cell (p := ⟨bo, 0, none⟩) HBx.out.1).trans hHeld.1, (hbA.cell (p := ⟨bo, 1, none⟩) HBx.out.1).trans hHeld.2.1, (hbA.cell (p := ⟨bo, 2, none⟩) HBx.out.1).trans hHeld.2.2⟩
              have HB3 := Lib.hid hHeld
              have hownA : (w2.alloc (.cells #[.int .i64 f, .int .i64 l, .int .i64 c, .bool false, .bool false, .bool false] 90)).drew.ownsRow base 90 6 (.slice po m co) m (condCells P.conds) := HO.out.1.alloc _
              have hboxA : (w2.alloc (.cells #[.int .i64 f, .int .i64 l, .int .i64 c, .bool false, .bool false, .bool false] 90)).drew.heap[w2.heap.size]? = _ := heap_alloc_new w2 _
              have hszA : (w2.alloc (.cells #[.int .i64 f, .int .i64 l, .int .i64 c, .bool false, .bool false, .bool false] 90)).drew.heap.size = w2.heap.size + 1 := World.size_alloc _ _
              have HA := Lib.hid (And.intro hHeldA (And.intro hownA (And.intro hboxA hszA)))
              clear hHeldA hownA hboxA hszA
              refine wpAnyH_ready (rs := [4, 12]) (by kernel_rfl) (by simp) ?_
              refine held_cons rfl (fun K hK => ?_) (held_cons rfl (fun K hK => ?_) AllReadyH.nil)
              · go_simp
                refine hK.out _ _ hHeld (fun _ => ?_)
                clear hK K
                try simp only [Act.put, List.setIfInBounds_toArray, List.set_cons_zero, List.set_cons_succ]
                refine wpAnyH_ready (rs := [12]) (by kernel_rfl) (by simp) ?_
                refine held_cons rfl (fun K hK => ?_) AllReadyH.nil
                go_simp
                obtain ⟨hHeldA, hownA, hboxA, hszA⟩ := HA.out
                refine hK.out _ _ hHeldA (fun _ => ?_)
                clear hHeld hK K
                have hHeld := hHeldA
                clear hHeldA
                try simp only [Act.put, List.setIfInBounds_toArray, List.set_cons_zero, List.set_cons_succ]
                refine wpAnyH_ready (rs := [13]) (by kernel_rfl) (by simp) ?_
                refine held_cons rfl (fun K hK => step_app rfl _ _ 84 rfl TCds base (.slice po m co) m (condCells P.conds) rfl hownA w2.heap.size 1 1 [.int .i64 f, .int .i64 l, .int .i64 c, .bool false, .bool false, .bool false] rfl _ hboxA rfl rfl (by simp [Value.oneCell']) Nat.one_pos (by omega) (by omega) (by rw [hszA]; have := HO.out.2.2.2; omega) ?_) AllReadyH.nil
                intro g5 cap5 w5 happ
                have hold : ∀ j, j < w2.heap.size → Value.ownBlock (.slice po m co) ≠ some j → w5.heap[j]? = w2.heap[j]? := fun j hj hne => (happ.old (by rw [hszA]; omega) hne).trans (heap_alloc_old w2 _ hj)
                have hHeldB : (fun W => W.cell? ⟨bo, 0, none⟩ = some (.int .i64 f) ∧ W.cell? ⟨bo, 1, none⟩ = some (.int .i64 l) ∧ W.cell? ⟨bo, 2, none⟩ = some (.int .i64 c)) w5 := by
                  have e := hold bo HBx.out.1 HBx.out.2.1
                  exact ⟨(World.cell?_of_block (a := ⟨bo, 0, none⟩) e).trans HB3.out.1, (World.cell?_of_block (a := ⟨bo, 1, none⟩) e).trans HB3.out.2.1, (World.cell?_of_block (a := ⟨bo, 2, none⟩) e).trans HB3.out.2.2⟩
                have e3 := hold bf HO.out.2.2.1 HO.out.2.1
                have hc3 := (World.cell?_of_block (a := ⟨bf, 2, none⟩) e3).trans c2
                have hf3 := (World.frozen?_of_block (a := ⟨bf, 2, none⟩) e3).trans f2
                have H5 := Lib.hid happ
                refine hK.out _ _ hHeldB (fun _ => ?_)
                clear hHeld hK K happ hold e3
                have hHeld := hHeldB
                clear hHeldB hownA hboxA hszA
                try simp only [Act.put, List.setIfInBounds_toArray, List.set_cons_zero, List.set_cons_succ]
                refine held_take (i := 14) (v := ?_) rfl (by kernel_rfl) (by kernel_rfl) (by kernel_rfl) (fun _ _ _ h => h) (Or.inl ⟨by rfl, ?_⟩) hHeld ?_
                rotate_left
                · intro w hSw; obtain ⟨hS1, hS2, hS3⟩ := hSw; go_simp; (try with_reducible rfl)
                try simp only [Act.put, List.setIfInBounds_toArray, List.set_cons_zero, List.set_cons_succ]
                refine held_take (i := 15) (v := ?_) rfl (by kernel_rfl) (by kernel_rfl) (by kernel_rfl) (fun _ _ _ h => h) (Or.inl ⟨by rfl, ?_⟩) hHeld ?_
                rotate_left
                · intro w hSw; obtain ⟨hS1, hS2, hS3⟩ := hSw; go_simp; (try with_reducible rfl)
                try simp only [Act.put, List.setIfInBounds_toArray, List.set_cons_zero, List.set_cons_succ]
                refine wpAnyH_ready (rs := [16]) (by kernel_rfl) (by simp) ?_
                refine held_cons rfl (fun K hK => ?_) AllReadyH.nil
                go_simp
                refine hK.out _ _ ?_ (fun _ => ?_)
                · exact ⟨(World.cell?_setCell_far _ _ _ _ (fun e => HBx.out.2.2 e)).trans hHeld.1, (World.cell?_setCell_far _ _ _ _ (fun e => HBx.out.2.2 e)).trans hHeld.2.1, (World.cell?_setCell_far _ _ _ _ (fun e => HBx.out.2.2 e)).trans hHeld.2.2⟩
                clear hK K
                try simp only [Act.put, List.setIfInBounds_toArray, List.set_cons_zero, List.set_cons_succ]
                refine wpAnyH_done (by kernel_rfl) ?_ _
                clear hc3 hf3 hHeld
                go_wp2_with fail
                go_end0
                have hend := H2.out.2.2.app ⟨f, l, c, false, false, false⟩ (o := .cells #[.int .i64 f, .int .i64 l, .int .i64 c, .bool false, .bool false, .bool false] 90) HM.out.1 (by omega) H5.out
                have hfn := H2.out.1.fnew ⟨_, hend.1, rfl⟩ (by rw [HX.out.2.2.2.2.2.2.1]; exact hend.2)
                exact ⟨F, _, rfl, by rw [HRc.out false false (by (rw [HAV.out, HK.out, HKb.out, HW1.out]; rfl)) HAV.out]; exact hfn.1, (Upd.below H2.out.2.1).trans hfn.2⟩
              · go_simp
                obtain ⟨hHeldA, hownA, hboxA, hszA⟩ := HA.out
                refine hK.out _ _ hHeldA (fun _ => ?_)
                clear hHeld hK K
                have hHeld := hHeldA
                clear hHeldA
                try simp only [Act.put, List.setIfInBounds_toArray, List.set_cons_zero, List.set_cons_succ]
                have c2A : (w2.alloc (.cells #[.int .i64 f, .int .i64 l, .int .i64 c, .bool false, .bool false, .bool false] 90)).drew.cell? ⟨bf, 2, none⟩ = some (.slice po m co) := ((Below.new w2 _).drew.cell (p := ⟨bf, 2, none⟩) HO.out.2.2.1).trans c2
                refine wpAnyH_ready (rs := [4]) (by kernel_rfl) (by simp) ?_
                refine held_cons rfl (fun K hK => ?_) AllReadyH.nil
                go_simp
                refine hK.out _ _ hHeld (fun _ => ?_)
                clear hK K c2A
                try simp only [Act.put, List.setIfInBounds_toArray, List.set_cons_zero, List.set_cons_succ]
                refine wpAnyH_ready (rs := [13]) (by kernel_rfl) (by simp) ?_
                refine held_cons rfl (fun K hK => step_app rfl _ _ 84 rfl TCds base (.slice po m co) m (condCells P.conds) rfl hownA w2.heap.size 1 1 [.int .i64 f, .int .i64 l, .int .i64 c, .bool false, .bool false, .bool false] rfl _ hboxA rfl rfl (by simp [Value.oneCell']) Nat.one_pos (by omega) (by omega) (by rw [hszA]; have := HO.out.2.2.2; omega) ?_) AllReadyH.nil
                intro g5 cap5 w5 happ
                have hold : ∀ j, j < w2.heap.size → Value.ownBlock (.slice po m co) ≠ some j → w5.heap[j]? = w2.heap[j]? := fun j hj hne => (happ.old (by rw [hszA]; omega) hne).trans (heap_alloc_old w2 _ hj)
                have hHeldB : (fun W => W.cell? ⟨bo, 0, none⟩ = some (.int .i64 f) ∧ W.cell? ⟨bo, 1, none⟩ = some (.int .i64 l) ∧ W.cell? ⟨bo, 2, none⟩ = some (.int .i64 c)) w5 := by
                  have e := hold bo HBx.out.1 HBx.out.2.1
                  exact ⟨(World.cell?_of_block (a := ⟨bo, 0, none⟩) e).trans HB3.out.1, (World.cell?_of_block (a := ⟨bo, 1, none⟩) e).trans HB3.out.2.1, (World.cell?_of_block (a := ⟨bo, 2, none⟩) e).trans HB3.out.2.2⟩
                have e3 := hold bf HO.out.2.2.1 HO.out.2.1
                have hc3 := (World.cell?_of_block (a := ⟨bf, 2, none⟩) e3).trans c2
                have hf3 := (World.frozen?_of_block (a := ⟨bf, 2, none⟩) e3).trans f2
                have H5 := Lib.hid happ
                refine hK.out _ _ hHeldB (fun _ => ?_)
                clear hHeld hK K happ hold e3
                have hHeld := hHeldB
                clear hHeldB hownA hboxA hszA
                try simp only [Act.put, List.setIfInBounds_toArray, List.set_cons_zero, List.set_cons_succ]
                refine held_take (i := 14) (v := ?_) rfl (by kernel_rfl) (by kernel_rfl) (by kernel_rfl) (fun _ _ _ h => h) (Or.inl ⟨by rfl, ?_⟩) hHeld ?_
                rotate_left
                · intro w hSw; obtain ⟨hS1, hS2, hS3⟩ := hSw; go_simp; (try with_reducible rfl)
                try simp only [Act.put, List.setIfInBounds_toArray, List.set_cons_zero, List.set_cons_succ]
                refine held_take (i := 15) (v := ?_) rfl (by kernel_rfl) (by kernel_rfl) (by kernel_rfl) (fun _ _ _ h => h) (Or.inl ⟨by rfl, ?_⟩) hHeld ?_
                rotate_left
                · intro w hSw; obtain ⟨hS1, hS2, hS3⟩ := hSw; go_simp; (try with_reducible rfl)
                try simp only [Act.put, List.setIfInBounds_toArray, List.set_cons_zero, List.set_cons_succ]
                refine wpAnyH_ready (rs := [16]) (by kernel_rfl) (by simp) ?_
                refine held_cons rfl (fun K hK => ?_) AllReadyH.nil
                go_simp
                refine hK.out _ _ ?_ (fun _ => ?_)
                · exact ⟨(World.cell?_setCell_far _ _ _ _ (fun e => HBx.out.2.2 e)).trans hHeld.1, (World.cell?_setCell_far _ _ _ _ (fun e => HBx.out.2.2 e)).trans hHeld.2.1, (World.cell?_setCell_far _ _ _ _ (fun e => HBx.out.2.2 e)).trans hHeld.2.2⟩
                clear hK K
                try simp only [Act.put, List.setIfInBounds_toArray, List.set_cons_zero, List.set_cons_succ]
                refine wpAnyH_done (by kernel_rfl) ?_ _
                clear hc3 hf3 hHeld
                go_wp2_with fail
                go_end0
                have hend := H2.out.2.2.app ⟨f, l, c, false, false, false⟩ (o := .cells #[.int .i64 f, .int .i64 l, .int .i64 c, .bool false, .bool false, .bool false] 90) HM.out.1 (by omega) H5.out
                have hfn := H2.out.1.fnew ⟨_, hend.1, rfl⟩ (by rw [HX.out.2.2.2.2.2.2.1]; exact hend.2)
                exact ⟨F, _, rfl, by rw [HRc.out false false (by (rw [HAV.out, HK.out, HKb.out, HW1.out]; rfl)) HAV.out]; exact hfn.1, (Upd.below H2.out.2.1).trans hfn.2⟩
            · refine held_take (i := 8) (v := ?_) rfl (by kernel_rfl) (by kernel_rfl) (by kernel_rfl) (fun _ _ _ h => h) (Or.inl ⟨by rfl, ?_⟩) hHeld ?_
              rotate_left
              · intro w hSw; obtain ⟨hS1, hS2, hS3⟩ := hSw; go_simp; (try with_reducible rfl)
              try simp only [Act.put, List.setIfInBounds_toArray, List.set_cons_zero, List.set_cons_succ]
              refine held_take (i := 9) (v := ?_) rfl (by kernel_rfl) (by kernel_rfl) (by kernel_rfl) (fun _ _ _ h => h) (Or.inl ⟨by rfl, ?_⟩) hHeld ?_
              rotate_left
              · intro w hSw; obtain ⟨hS1, hS2, hS3⟩ := hSw; go_simp; (try with_reducible rfl)
              try simp only [Act.put, List.setIfInBounds_toArray, List.set_cons_zero, List.set_cons_succ]
              refine held_take (i := 10) (v := ?_) rfl (by kernel_rfl) (by kernel_rfl) (by kernel_rfl) (fun _ _ _ h => h) (Or.inl ⟨by rfl, ?_⟩) hHeld ?_
              rotate_left
              · intro w hSw; obtain ⟨hS1, hS2, hS3⟩ := hSw; go_simp; (try with_reducible rfl)
              try simp only [Act.put, List.setIfInBounds_toArray, List.set_cons_zero, List.set_cons_succ]
              refine held_take (i := 11) (v := ?_) rfl (by kernel_rfl) (by kernel_rfl) (by kernel_rfl) (fun _ _ _ h => h) (Or.inl ⟨by rfl, ?_⟩) hHeld ?_
              rotate_left
              · intro w hSw; obtain ⟨hS1, hS2, hS3⟩ := hSw; go_simp; (try with_reducible rfl)
              try simp only [Act.put, List.setIfInBounds_toArray, List.set_cons_zero, List.set_cons_succ]
              have hHeldA : (fun W => W.cell? ⟨bo, 0, none⟩ = some (.int .i64 f) ∧ W.cell? ⟨bo, 1, none⟩ = some (.int .i64 l) ∧ W.cell? ⟨bo, 2, none⟩ = some (.int .i64 c)) (w2.alloc (.cells #[.int .i64 f, .int .i64 l, .int .i64 c, .bool false, .bool true, .bool false] 90)).drew := by
                have hbA := (Below.new w2 (.cells #[.int .i64 f, .int .i64 l, .int .i64 c, .bool false, .bool true, .bool false] 90)).drew
                exact ⟨(hbA.cell (p := ⟨bo, 0, none⟩) HBx.out.1).trans hHeld.1, (hbA.cell (p := ⟨bo, 1, none⟩) HBx.out.1).trans hHeld.2.1, (hbA.cell (p := ⟨bo, 2, none⟩) HBx.out.1).trans hHeld.2.2⟩
              have HB3 := Lib.hid hHeld
              have hownA : (w2.alloc (.cells #[.int .i64 f, .int .i64 l, .int .i64 c, .bool false, .bool true, .bool false] 90)).drew.ownsRow base 90 6 (.slice po m co) m (condCells P.conds) := HO.out.1.alloc _
              have hboxA : (w2.alloc (.cells #[.int .i64 f, .int .i64 l, .int .i64 c, .bool false, .bool true, .bool false] 90)).drew.heap[w2.heap.size]? = _ := heap_alloc_new w2 _
              have hszA : (w2.alloc (.cells #[.int .i64 f, .int .i64 l, .int .i64 c, .bool false, .bool true, .bool false] 90)).drew.heap.size = w2.heap.size + 1 := World.size_alloc _ _
              have HA := Lib.hid (And.intro hHeldA (And.intro hownA (And.intro hboxA hszA)))
              clear hHeldA hownA hboxA hszA
              refine wpAnyH_ready (rs := [4, 12]) (by kernel_rfl) (by simp) ?_
              refine held_cons rfl (fun K hK => ?_) (held_cons rfl (fun K hK => ?_) AllReadyH.nil)
              · go_simp
                refine hK.out _ _ hHeld (fun _ => ?_)
                clear hK K
                try simp only [Act.put, List.setIfInBounds_toArray, List.set_cons_zero, List.set_cons_succ]
                refine wpAnyH_ready (rs := [12]) (by kernel_rfl) (by simp) ?_
                refine held_cons rfl (fun K hK => ?_) AllReadyH.nil
                go_simp
                obtain ⟨hHeldA, hownA, hboxA, hszA⟩ := HA.out
                refine hK.out _ _ hHeldA (fun _ => ?_)
                clear hHeld hK K
                have hHeld := hHeldA
                clear hHeldA
                try simp only [Act.put, List.setIfInBounds_toArray, List.set_cons_zero, List.set_cons_succ]
                refine wpAnyH_ready (rs := [13]) (by kernel_rfl) (by simp) ?_
                refine held_cons rfl (fun K hK => step_app rfl _ _ 84 rfl TCds base (.slice po m co) m (condCells P.conds) rfl hownA w2.heap.size 1 1 [.int .i64 f, .int .i64 l, .int .i64 c, .bool false, .bool true, .bool false] rfl _ hboxA rfl rfl (by simp [Value.oneCell']) Nat.one_pos (by omega) (by omega) (by rw [hszA]; have := HO.out.2.2.2; omega) ?_) AllReadyH.nil
                intro g5 cap5 w5 happ
                have hold : ∀ j, j < w2.heap.size → Value.ownBlock (.slice po m co) ≠ some j → w5.heap[j]? = w2.heap[j]? := fun j hj hne => (happ.old (by rw [hszA]; omega) hne).trans (heap_alloc_old w2 _ hj)
                have hHeldB : (fun W => W.cell? ⟨bo, 0, none⟩ = some (.int .i64 f) ∧ W.cell? ⟨bo, 1, none⟩ = some (.int .i64 l) ∧ W.cell? ⟨bo, 2, none⟩ = some (.int .i64 c)) w5 := by
                  have e := hold bo HBx.out.1 HBx.out.2.1
                  exact ⟨(World.cell?_of_block (a := ⟨bo, 0, none⟩) e).trans HB3.out.1, (World.cell?_of_block (a := ⟨bo, 1, none⟩) e).trans HB3.out.2.1, (World.cell?_of_block (a := ⟨bo, 2, none⟩) e).trans HB3.out.2.2⟩
                have e3 := hold bf HO.out.2.2.1 HO.out.2.1
                have hc3 := (World.cell?_of_block (a := ⟨bf, 2, none⟩) e3).trans c2
                have hf3 := (World.frozen?_of_block (a := ⟨bf, 2, none⟩) e3).trans f2
                have H5 := Lib.hid happ
                refine hK.out _ _ hHeldB (fun _ => ?_)
                clear hHeld hK K happ hold e3
                have hHeld := hHeldB
                clear hHeldB hownA hboxA hszA
                try simp only [Act.put, List.setIfInBounds_toArray, List.set_cons_zero, List.set_cons_succ]
                refine held_take (i := 14) (v := ?_) rfl (by kernel_rfl) (by kernel_rfl) (by kernel_rfl) (fun _ _ _ h => h) (Or.inl ⟨by rfl, ?_⟩) hHeld ?_
                rotate_left
                · intro w hSw; obtain ⟨hS1, hS2, hS3⟩ := hSw; go_simp; (try with_reducible rfl)
                try simp only [Act.put, List.setIfInBounds_toArray, List.set_cons_zero, List.set_cons_succ]
                refine held_take (i := 15) (v := ?_) rfl (by kernel_rfl) (by kernel_rfl) (by kernel_rfl) (fun _ _ _ h => h) (Or.inl ⟨by rfl, ?_⟩) hHeld ?_
                rotate_left
                · intro w hSw; obtain ⟨hS1, hS2, hS3⟩ := hSw; go_simp; (try with_reducible rfl)
                try simp only [Act.put, List.setIfInBounds_toArray, List.set_cons_zero, List.set_cons_succ]
                refine wpAnyH_ready (rs := [16]) (by kernel_rfl) (by simp) ?_
                refine held_cons rfl (fun K hK => ?_) AllReadyH.nil
                go_simp
                refine hK.out _ _ ?_ (fun _ => ?_)
                · exact ⟨(World.cell?_setCell_far _ _ _ _ (fun e => HBx.out.2.2 e)).trans hHeld.1, (World.cell?_setCell_far _ _ _ _ (fun e => HBx.out.2.2 e)).trans hHeld.2.1, (World.cell?_setCell_far _ _ _ _ (fun e => HBx.out.2.2 e)).trans hHeld.2.2⟩
                clear hK K
                try simp only [Act.put, List.setIfInBounds_toArray, List.set_cons_zero, List.set_cons_succ]
                refine wpAnyH_done (by kernel_rfl) ?_ _
                clear hc3 hf3 hHeld
                go_wp2_with fail
                go_end0
                have hend := H2.out.2.2.app ⟨f, l, c, false, true, false⟩ (o := .cells #[.int .i64 f, .int .i64 l, .int .i64 c, .bool false, .bool true, .bool false] 90) HM.out.1 (by omega) H5.out
                have hfn := H2.out.1.fnew ⟨_, hend.1, rfl⟩ (by rw [HX.out.2.2.2.2.2.2.1]; exact hend.2)
                exact ⟨F, _, rfl, by rw [HRc.out false true (by (rw [HAV.out, HK.out, HKb.out, HW1.out]; rfl)) HAV.out]; exact hfn.1, (Upd.below H2.out.2.1).trans hfn.2⟩
              · go_simp
                obtain ⟨hHeldA, hownA, hboxA, hszA⟩ := HA.out
                refine hK.out _ _ hHeldA (fun _ => ?_)
                clear hHeld hK K
                have hHeld := hHeldA
                clear hHeldA
                try simp only [Act.put, List.setIfInBounds_toArray, List.set_cons_zero, List.set_cons_succ]
                have c2A : (w2.alloc (.cells #[.int .i64 f, .int .i64 l, .int .i64 c, .bool false, .bool true, .bool false] 90)).drew.cell? ⟨bf, 2, none⟩ = some (.slice po m co) := ((Below.new w2 _).drew.cell (p := ⟨bf, 2, none⟩) HO.out.2.2.1).trans c2
                refine wpAnyH_ready (rs := [4]) (by kernel_rfl) (by simp) ?_
                refine held_cons rfl (fun K hK => ?_) AllReadyH.nil
                go_simp
                refine hK.out _ _ hHeld (fun _ => ?_)
                clear hK K c2A
                try simp only [Act.put, List.setIfInBounds_toArray, List.set_cons_zero, List.set_cons_succ]
                refine wpAnyH_ready (rs := [13]) (by kernel_rfl) (by simp) ?_
                refine held_cons rfl (fun K hK => step_app rfl _ _ 84 rfl TCds base (.slice po m co) m (condCells P.conds) rfl hownA w2.heap.size 1 1 [.int .i64 f, .int .i64 l, .int .i64 c, .bool false, .bool true, .bool false] rfl _ hboxA rfl rfl (by simp [Value.oneCell']) Nat.one_pos (by omega) (by omega) (by rw [hszA]; have := HO.out.2.2.2; omega) ?_) AllReadyH.nil
                intro g5 cap5 w5 happ
                have hold : ∀ j, j < w2.heap.size → Value.ownBlock (.slice po m co) ≠ some j → w5.heap[j]? = w2.heap[j]? := fun j hj hne => (happ.old (by rw [hszA]; omega) hne).trans (heap_alloc_old w2 _ hj)
                have hHeldB : (fun W => W.cell? ⟨bo, 0, none⟩ = some (.int .i64 f) ∧ W.cell? ⟨bo, 1, none⟩ = some (.int .i64 l) ∧ W.cell? ⟨bo, 2, none⟩ = some (.int .i64 c)) w5 := by
                  have e := hold bo HBx.out.1 HBx.out.2.1
                  exact ⟨(World.cell?_of_block (a := ⟨bo, 0, none⟩) e).trans HB3.out.1, (World.cell?_of_block (a := ⟨bo, 1, none⟩) e).trans HB3.out.2.1, (World.cell?_of_block (a := ⟨bo, 2, none⟩) e).trans HB3.out.2.2⟩
                have e3 := hold bf HO.out.2.2.1 HO.out.2.1
                have hc3 := (World.cell?_of_block (a := ⟨bf, 2, none⟩) e3).trans c2
                have hf3 := (World.frozen?_of_block (a := ⟨bf, 2, none⟩) e3).trans f2
                have H5 := Lib.hid happ
                refine hK.out _ _ hHeldB (fun _ => ?_)
                clear hHeld hK K happ hold e3
                have hHeld := hHeldB
                clear hHeldB hownA hboxA hszA
                try simp only [Act.put, List.setIfInBounds_toArray, List.set_cons_zero, List.set_cons_succ]
                refine held_take (i := 14) (v := ?_) rfl (by kernel_rfl) (by kernel_rfl) (by kernel_rfl) (fun _ _ _ h => h) (Or.inl ⟨by rfl, ?_⟩) hHeld ?_
                rotate_left
                · intro w hSw; obtain ⟨hS1, hS2, hS3⟩ := hSw; go_simp; (try with_reducible rfl)
                try simp only [Act.put, List.setIfInBounds_toArray, List.set_cons_zero, List.set_cons_succ]
                refine held_take (i := 15) (v := ?_) rfl (by kernel_rfl) (by kernel_rfl) (by kernel_rfl) (fun _ _ _ h => h) (Or.inl ⟨by rfl, ?_⟩) hHeld ?_
                rotate_left
                · intro w hSw; obtain ⟨hS1, hS2, hS3⟩ := hSw; go_simp; (try with_reducible rfl)
                try simp only [Act.put, List.setIfInBounds_toArray, List.set_cons_zero, List.set_cons_succ]
                refine wpAnyH_ready (rs := [16]) (by kernel_rfl) (by simp) ?_
                refine held_cons rfl (fun K hK => ?_) AllReadyH.nil
                go_simp
                refine hK.out _ _ ?_ (fun _ => ?_)
                · exact ⟨(World.cell?_setCell_far _ _ _ _ (fun e => HBx.out.2.2 e)).trans hHeld.1, (World.cell?_setCell_far _ _ _ _ (fun e => HBx.out.2.2 e)).trans hHeld.2.1, (World.cell?_setCell_far _ _ _ _ (fun e => HBx.out.2.2 e)).trans hHeld.2.2⟩
                clear hK K
                try simp only [Act.put, List.setIfInBounds_toArray, List.set_cons_zero, List.set_cons_succ]
                refine wpAnyH_done (by kernel_rfl) ?_ _
                clear hc3 hf3 hHeld
                go_wp2_with fail
                go_end0
                have hend := H2.out.2.2.app ⟨f, l, c, false, true, false⟩ (o := .cells #[.int .i64 f, .int .i64 l, .int .i64 c, .bool false, .bool true, .bool false] 90) HM.out.1 (by omega) H5.out
                have hfn := H2.out.1.fnew ⟨_, hend.1, rfl⟩ (by rw [HX.out.2.2.2.2.2.2.1]; exact hend.2)
                exact ⟨F, _, rfl, by rw [HRc.out false true (by (rw [HAV.out, HK.out, HKb.out, HW1.out]; rfl)) HAV.out]; exact hfn.1, (Upd.below H2.out.2.1).trans hfn.2⟩
          · go_enter Tryz.func66, Tryz.ntmps66
            go_wp2_with fail
            refine (HNm.out _).mono ?_; rintro e wn ⟨rfl, rfl⟩
            go_wp2_with fail
            refine (counts_any HX.out.1.f).mono ?_; rintro e w2 ⟨rfl, hb2⟩
            have h2 := HX.out.1.below hb2
            have hb0 := Below.next HX.out.2.1 hb2
            have k2 := HX.out.2.2.1.next hb2
            have hf2 := HX.out.2.2.2.2.2.1.below hb2
            obtain ⟨bm, vt, vo, k, D, hx, hF⟩ := h2.x
            have x1 := hx.blk.cell (i := 1) rfl
            have hown := hx.mp
            have hdk := hx.dk rest
            rw [HK.out] at hdk
            rw [HBo.out] at k2
            have hk2 := k2
            have hbo1 : Value.ownBlock (.slice po m co) ≠ some bo := fun e => HX.out.2.2.2.2.1 bo (.inr (by rw [HX.out.2.2.2.2.2.2.1]; exact .inr e)) HBo.out.symm
            have hbo2 : bf ≠ bo := fun e => HX.out.2.2.2.2.1 bf (.inr (by rw [HX.out.2.2.2.2.2.2.1]; exact .inl rfl)) (e.trans HBo.out.symm)
            have f2 := hf2.blk.frz 2
            have c0 := hf2.blk.cell (i := 0) rfl
            have c2 := hf2.blk.cell (i := 2) rfl
            have d0 := k2.cell (i := 0) rfl
            have d1 := k2.cell (i := 1) rfl
            have d2 := k2.cell (i := 2) rfl
            have hcs2 := hf2.cs
            rw [HM.out.1] at hcs2
            have hne := hf2.ne
            have hlt2 := hf2.blk.lt
            have H2 := Lib.hid (And.intro h2 (And.intro hb0 hf2))
            obtain ⟨av, hav⟩ : ∃ av, countsP P = av := ⟨_, rfl⟩
            rw [hav]
            have HAV := Lib.hid hav
            clear h2 hb0 k2 hf2 hx hF hb2 a0 a2 e0 e1 e2 hav
            go_upto_region 12 with (first
                | (at_lookup; refine wpList_lookup_own_int _ rfl _ _ 61 rfl 9 3 .i64 keyS Tryz.underlying61 Tryz.underlying3 (zeroInt _) bm k D rfl hown _ _ rfl hkey ?_; intro c2 hat hwc; obtain rfl : c2 = (K : Int) := by (rw [hdk] at hat; injection hat with hat; injection hat with _ hat; exact hat.symm))
                | fail)
            clear hown hkey hdk x1
            have hbase : base ≤ w2.heap.size := by have := H2.out.2.2.gf; omega
            have HO := Lib.hid (And.intro hcs2 (And.intro hne (And.intro hlt2 hbase)))
            have HBx : Hid (bo < w2.heap.size ∧ Value.ownBlock (.slice po m co) ≠ some bo ∧ bf ≠ bo) := Lib.hid ⟨some_lt hk2, hbo1, hbo2⟩
            refine wp_region_held_drew (S := fun W => W.cell? ⟨bo, 0, none⟩ = some (.int .i64 f) ∧ W.cell? ⟨bo, 1, none⟩ = some (.int .i64 l) ∧ W.cell? ⟨bo, 2, none⟩ = some (.int .i64 c)) (by kernel_rfl) ?_ (fun hHeld => ?_)
            · exact ⟨d0, d1, d2⟩
            clear hcs2 hne hlt2 hk2 hbo1 hbo2 d0 d1 d2
            refine held_take (i := 0) (v := ?_) rfl (by kernel_rfl) (by kernel_rfl) (by kernel_rfl) (fun _ _ _ h => h) (Or.inl ⟨by rfl, ?_⟩) hHeld ?_
            rotate_left
            · intro w hSw; obtain ⟨hS1, hS2, hS3⟩ := hSw; go_simp; (try with_reducible rfl)
            try simp only [Act.put, List.setIfInBounds_toArray, List.set_cons_zero, List.set_cons_succ]
            refine held_take (i := 1) (v := ?_) rfl (by kernel_rfl) (by kernel_rfl) (by kernel_rfl) (fun _ _ _ h => h) (Or.inl ⟨by rfl, ?_⟩) hHeld ?_
            rotate_left
            · intro w hSw; obtain ⟨hS1, hS2, hS3⟩ := hSw; go_simp; (try with_reducible rfl)
            try simp only [Act.put, List.setIfInBounds_toArray, List.set_cons_zero, List.set_cons_succ]
            refine held_take (i := 2) (v := ?_) rfl (by kernel_rfl) (by kernel_rfl) (by kernel_rfl) (fun _ _ _ h => h) (Or.inl ⟨by rfl, ?_⟩) hHeld ?_
            rotate_left
            · intro w hSw; obtain ⟨hS1, hS2, hS3⟩ := hSw; go_simp; (try with_reducible rfl)
            try simp only [Act.put, List.setIfInBounds_toArray, List.set_cons_zero, List.set_cons_succ]
            refine held_take (i := 3) (v := ?_) rfl (by kernel_rfl) (by kernel_rfl) (by kernel_rfl) (fun _ _ _ h => h) (Or.inl ⟨by rfl, ?_⟩) hHeld ?_
            rotate_left
            · intro w hSw; obtain ⟨hS1, hS2, hS3⟩ := hSw; go_simp; (try with_reducible rfl)
            try simp only [Act.put, List.setIfInBounds_toArray, List.set_cons_zero, List.set_cons_succ]
            refine held_take (i := 5) (v := ?_) rfl (by kernel_rfl) (by kernel_rfl) (by kernel_rfl) (fun _ _ _ h => h) (Or.inl ⟨by rfl, ?_⟩) hHeld ?_
            rotate_left
            · intro w hSw; obtain ⟨hS1, hS2, hS3⟩ := hSw; go_simp; (try with_reducible rfl)
            try simp only [Act.put, List.setIfInBounds_toArray, List.set_cons_zero, List.set_cons_succ]
            refine held_take (i := 6) (v := ?_) rfl (by kernel_rfl) (by kernel_rfl) (by kernel_rfl) (fun _ _ _ h => h) (Or.inl ⟨by rfl, ?_⟩) hHeld ?_
            rotate_left
            · intro w hSw; obtain ⟨hS1, hS2, hS3⟩ := hSw; go_simp; (try with_reducible rfl)
            try simp only [Act.put, List.setIfInBounds_toArray, List.set_cons_zero, List.set_cons_succ]
            refine held_take (i := 7) (v := ?_) rfl (by kernel_rfl) (by kernel_rfl) (by kernel_rfl) (fun _ _ _ h => h) (Or.inl ⟨by rfl, ?_⟩) hHeld ?_
            rotate_left
            · intro w hSw; obtain ⟨hS1, hS2, hS3⟩ := hSw; go_simp; (try with_reducible rfl)
            try simp only [Act.put, List.setIfInBounds_toArray, List.set_cons_zero, List.set_cons_succ]
            cases av
            · refine held_take (i := 8) rfl (by kernel_rfl) (by kernel_rfl) (by kernel_rfl) (fun _ _ _ h => h) (Or.inr ⟨by rfl, rfl⟩) hHeld ?_
              try simp only [Act.put, List.setIfInBounds_toArray, List.set_cons_zero, List.set_cons_succ]
              refine held_take (i := 9) (v := ?_) rfl (by kernel_rfl) (by kernel_rfl) (by kernel_rfl) (fun _ _ _ h => h) (Or.inl ⟨by rfl, ?_⟩) hHeld ?_
              rotate_left
              · intro w hSw; obtain ⟨hS1, hS2, hS3⟩ := hSw; go_simp; (try with_reducible rfl)
              try simp only [Act.put, List.setIfInBounds_toArray, List.set_cons_zero, List.set_cons_succ]
              refine held_take (i := 10) (v := ?_) rfl (by kernel_rfl) (by kernel_rfl) (by kernel_rfl) (fun _ _ _ h => h) (Or.inl ⟨by rfl, ?_⟩) hHeld ?_
              rotate_left
              · intro w hSw; obtain ⟨hS1, hS2, hS3⟩ := hSw; go_simp; (try with_reducible rfl)
              try simp only [Act.put, List.setIfInBounds_toArray, List.set_cons_zero, List.set_cons_succ]
              refine held_take (i := 11) (v := ?_) rfl (by kernel_rfl) (by kernel_rfl) (by kernel_rfl) (fun _ _ _ h => h) (Or.inl ⟨by rfl, ?_⟩) hHeld ?_
              rotate_left
              · intro w hSw; obtain ⟨hS1, hS2, hS3⟩ := hSw; go_simp; (try with_reducible rfl)
              try simp only [Act.put, List.setIfInBounds_toArray, List.set_cons_zero, List.set_cons_succ]
              have hHeldA : (fun W => W.cell? ⟨bo, 0, none⟩ = some (.int .i64 f) ∧ W.cell? ⟨bo, 1, none⟩ = some (.int .i64 l) ∧ W.cell? ⟨bo, 2, none⟩ = some (.int .i64 c)) (w2.alloc (.cells #[.int .i64 f, .int .i64 l, .int .i64 c, .bool false, .bool false, .bool false] 90)).drew := by
                have hbA := (Below.new w2 (.cells #[.int .i64 f, .int .i64 l, .int .i64 c, .bool false, .bool false, .bool false] 90)).drew
                exact ⟨(hbA.cell (p := ⟨bo, 0, none⟩) HBx.out.1).trans hHeld.1, (hbA.cell (p := ⟨bo, 1, none⟩) HBx.out.1).trans hHeld.2.1, (hbA.cell (p := ⟨bo, 2, none⟩) HBx.out.1).trans hHeld.2.2⟩
              have HB3 := Lib.hid hHeld
              have hownA : (w2.alloc (.cells #[.int .i64 f, .int .i64 l, .int .i64 c, .bool false, .bool false, .bool false] 90)).drew.ownsRow base 90 6 (.slice po m co) m (condCells P.conds) := HO.out.1.alloc _
              have hboxA : (w2.alloc (.cells #[.int .i64 f, .int .i64 l, .int .i64 c, .bool false, .bool false, .bool false] 90)).drew.heap[w2.heap.size]? = _ := heap_alloc_new w2 _
              have hszA : (w2.alloc (.cells #[.int .i64 f, .int .i64 l, .int .i64 c, .bool false, .bool false, .bool false] 90)).drew.heap.size = w2.heap.size + 1 := World.size_alloc _ _
              have HA := Lib.hid (And.intro hHeldA (And.intro hownA (And.intro hboxA hszA)))
              clear hHeldA hownA hboxA hszA
              refine wpAnyH_ready (rs := [4, 12]) (by kernel_rfl) (by simp) ?_
              refine held_cons rfl (fun K hK => ?_) (held_cons rfl (fun K hK => ?_) AllReadyH.nil)
              · go_simp
                refine hK.out _ _ hHeld (fun _ => ?_)
                clear hK K
                try simp only [Act.put, List.setIfInBounds_toArray, List.set_cons_zero, List.set_cons_succ]
                refine wpAnyH_ready (rs := [12]) (by kernel_rfl) (by simp) ?_
                refine held_cons rfl (fun K hK => ?_) AllReadyH.nil
                go_simp
                obtain ⟨hHeldA, hownA, hboxA, hszA⟩ := HA.out
                refine hK.out _ _ hHeldA (fun _ => ?_)
                clear hHeld hK K
                have hHeld := hHeldA
                clear hHeldA
                try simp only [Act.put, List.setIfInBounds_toArray, List.set_cons_zero, List.set_cons_succ]
                refine wpAnyH_ready (rs := [13]) (by kernel_rfl) (by simp) ?_
                refine held_cons rfl (fun K hK => step_app rfl _ _ 84 rfl TCds base (.slice po m co) m (condCells P.conds) rfl hownA w2.heap.size 1 1 [.int .i64 f, .int .i64 l, .int .i64 c, .bool false, .bool false, .bool false] rfl _ hboxA rfl rfl (by simp [Value.oneCell']) Nat.one_pos (by omega) (by omega) (by rw [hszA]; have := HO.out.2.2.2; omega) ?_) AllReadyH.nil
                intro g5 cap5 w5 happ
                have hold : ∀ j, j < w2.heap.size → Value.ownBlock (.slice po m co) ≠ some j → w5.heap[j]? = w2.heap[j]? := fun j hj hne => (happ.old (by rw [hszA]; omega) hne).trans (heap_alloc_old w2 _ hj)
                have hHeldB : (fun W => W.cell? ⟨bo, 0, none⟩ = some (.int .i64 f) ∧ W.cell? ⟨bo, 1, none⟩ = some (.int .i64 l) ∧ W.cell? ⟨bo, 2, none⟩ = some (.int .i64 c)) w5 := by
                  have e := hold bo HBx.out.1 HBx.out.2.1
                  exact ⟨(World.cell?_of_block (a := ⟨bo, 0, none⟩) e).trans HB3.out.1, (World.cell?_of_block (a := ⟨bo, 1, none⟩) e).trans HB3.out.2.1, (World.cell?_of_block (a := ⟨bo, 2, none⟩) e).trans HB3.out.2.2⟩
                have e3 := hold bf HO.out.2.2.1 HO.out.2.1
                have hc3 := (World.cell?_of_block (a := ⟨bf, 2, none⟩) e3).trans c2
                have hf3 := (World.frozen?_of_block (a := ⟨bf, 2, none⟩) e3).trans f2
                have H5 := Lib.hid happ
                refine hK.out _ _ hHeldB (fun _ => ?_)
                clear hHeld hK K happ hold e3
                have hHeld := hHeldB
                clear hHeldB hownA hboxA hszA
                try simp only [Act.put, List.setIfInBounds_toArray, List.set_cons_zero, List.set_cons_succ]
                refine held_take (i := 14) (v := ?_) rfl (by kernel_rfl) (by kernel_rfl) (by kernel_rfl) (fun _ _ _ h => h) (Or.inl ⟨by rfl, ?_⟩) hHeld ?_
                rotate_left
                · intro w hSw; obtain ⟨hS1, hS2, hS3⟩ := hSw; go_simp; (try with_reducible rfl)
                try simp only [Act.put, List.setIfInBounds_toArray, List.set_cons_zero, List.set_cons_succ]
                refine held_take (i := 15) (v := ?_) rfl (by kernel_rfl) (by kernel_rfl) (by kernel_rfl) (fun _ _ _ h => h) (Or.inl ⟨by rfl, ?_⟩) hHeld ?_
                rotate_left
                · intro w hSw; obtain ⟨hS1, hS2, hS3⟩ := hSw; go_simp; (try with_reducible rfl)
                try simp only [Act.put, List.setIfInBounds_toArray, List.set_cons_zero, List.set_cons_succ]
                refine wpAnyH_ready (rs := [16]) (by kernel_rfl) (by simp) ?_
                refine held_cons rfl (fun K hK => ?_) AllReadyH.nil
                go_simp
                refine hK.out _ _ ?_ (fun _ => ?_)
                · exact ⟨(World.cell?_setCell_far _ _ _ _ (fun e => HBx.out.2.2 e)).trans hHeld.1, (World.cell?_setCell_far _ _ _ _ (fun e => HBx.out.2.2 e)).trans hHeld.2.1, (World.cell?_setCell_far _ _ _ _ (fun e => HBx.out.2.2 e)).trans hHeld.2.2⟩
                clear hK K
                try simp only [Act.put, List.setIfInBounds_toArray, List.set_cons_zero, List.set_cons_succ]
                refine wpAnyH_done (by kernel_rfl) ?_ _
                clear hc3 hf3 hHeld
                go_wp2_with fail
                go_end0
                have hend := H2.out.2.2.app ⟨f, l, c, false, false, false⟩ (o := .cells #[.int .i64 f, .int .i64 l, .int .i64 c, .bool false, .bool false, .bool false] 90) HM.out.1 (by omega) H5.out
                have hfn := H2.out.1.fnew ⟨_, hend.1, rfl⟩ (by rw [HX.out.2.2.2.2.2.2.1]; exact hend.2)
                exact ⟨F, _, rfl, by rw [HRc.out false false (by (rw [HAV.out, HK.out, HKb.out, HW1.out]; rfl)) HAV.out]; exact hfn.1, (Upd.below H2.out.2.1).trans hfn.2⟩
              · go_simp
                obtain ⟨hHeldA, hownA, hboxA, hszA⟩ := HA.out
                refine hK.out _ _ hHeldA (fun _ => ?_)
                clear hHeld hK K
                have hHeld := hHeldA
                clear hHeldA
                try simp only [Act.put, List.setIfInBounds_toArray, List.set_cons_zero, List.set_cons_succ]
                have c2A : (w2.alloc (.cells #[.int .i64 f, .int .i64 l, .int .i64 c, .bool false, .bool false, .bool false] 90)).drew.cell? ⟨bf, 2, none⟩ = some (.slice po m co) := ((Below.new w2 _).drew.cell (p := ⟨bf, 2, none⟩) HO.out.2.2.1).trans c2
                refine wpAnyH_ready (rs := [4]) (by kernel_rfl) (by simp) ?_
                refine held_cons rfl (fun K hK => ?_) AllReadyH.nil
                go_simp
                refine hK.out _ _ hHeld (fun _ => ?_)
                clear hK K c2A
                try simp only [Act.put, List.setIfInBounds_toArray, List.set_cons_zero, List.set_cons_succ]
                refine wpAnyH_ready (rs := [13]) (by kernel_rfl) (by simp) ?_
                refine held_cons rfl (fun K hK => step_app rfl _ _ 84 rfl TCds base (.slice po m co) m (condCells P.conds) rfl hownA w2.heap.size 1 1 [.int .i64 f, .int .i64 l, .int .i64 c, .bool false, .bool false, .bool false] rfl _ hboxA rfl rfl (by simp [Value.oneCell']) Nat.one_pos (by omega) (by omega) (by rw [hszA]; have := HO.out.2.2.2; omega) ?_) AllReadyH.nil
                intro g5 cap5 w5 happ
                have hold : ∀ j, j < w2.heap.size → Value.ownBlock (.slice po m co) ≠ some j → w5.heap[j]? = w2.heap[j]? := fun j hj hne => (happ.old (by rw [hszA]; omega) hne).trans (heap_alloc_old w2 _ hj)
                have hHeldB : (fun W => W.cell? ⟨bo, 0, none⟩ = some (.int .i64 f) ∧ W.cell? ⟨bo, 1, none⟩ = some (.int .i64 l) ∧ W.cell? ⟨bo, 2, none⟩ = some (.int .i64 c)) w5 := by
                  have e := hold bo HBx.out.1 HBx.out.2.1
                  exact ⟨(World.cell?_of_block (a := ⟨bo, 0, none⟩) e).trans HB3.out.1, (World.cell?_of_block (a := ⟨bo, 1, none⟩) e).trans HB3.out.2.1, (World.cell?_of_block (a := ⟨bo, 2, none⟩) e).trans HB3.out.2.2⟩
                have e3 := hold bf HO.out.2.2.1 HO.out.2.1
                have hc3 := (World.cell?_of_block (a := ⟨bf, 2, none⟩) e3).trans c2
                have hf3 := (World.frozen?_of_block (a := ⟨bf, 2, none⟩) e3).trans f2
                have H5 := Lib.hid happ
                refine hK.out _ _ hHeldB (fun _ => ?_)
                clear hHeld hK K happ hold e3
                have hHeld := hHeldB
                clear hHeldB hownA hboxA hszA
                try simp only [Act.put, List.setIfInBounds_toArray, List.set_cons_zero, List.set_cons_succ]
                refine held_take (i := 14) (v := ?_) rfl (by kernel_rfl) (by kernel_rfl) (by kernel_rfl) (fun _ _ _ h => h) (Or.inl ⟨by rfl, ?_⟩) hHeld ?_
                rotate_left
                · intro w hSw; obtain ⟨hS1, hS2, hS3⟩ := hSw; go_simp; (try with_reducible rfl)
                try simp only [Act.put, List.setIfInBounds_toArray, List.set_cons_zero, List.set_cons_succ]
                refine held_take (i := 15) (v := ?_) rfl (by kernel_rfl) (by kernel_rfl) (by kernel_rfl) (fun _ _ _ h => h) (Or.inl ⟨by rfl, ?_⟩) hHeld ?_
                rotate_left
                · intro w hSw; obtain ⟨hS1, hS2, hS3⟩ := hSw; go_simp; (try with_reducible rfl)
                try simp only [Act.put, List.setIfInBounds_toArray, List.set_cons_zero, List.set_cons_succ]
                refine wpAnyH_ready (rs := [16]) (by kernel_rfl) (by simp) ?_
                refine held_cons rfl (fun K hK => ?_) AllReadyH.nil
                go_simp
                refine hK.out _ _ ?_ (fun _ => ?_)
                · exact ⟨(World.cell?_setCell_far _ _ _ _ (fun e => HBx.out.2.2 e)).trans hHeld.1, (World.cell?_setCell_far _ _ _ _ (fun e => HBx.out.2.2 e)).trans hHeld.2.1, (World.cell?_setCell_far _ _ _ _ (fun e => HBx.out.2.2 e)).trans hHeld.2.2⟩
                clear hK K
                try simp only [Act.put, List.setIfInBounds_toArray, List.set_cons_zero, List.set_cons_succ]
                refine wpAnyH_done (by kernel_rfl) ?_ _
                clear hc3 hf3 hHeld
                go_wp2_with fail
                go_end0
                have hend := H2.out.2.2.app ⟨f, l, c, false, false, false⟩ (o := .cells #[.int .i64 f, .int .i64 l, .int .i64 c, .bool false, .bool false, .bool false] 90) HM.out.1 (by omega) H5.out
                have hfn := H2.out.1.fnew ⟨_, hend.1, rfl⟩ (by rw [HX.out.2.2.2.2.2.2.1]; exact hend.2)
                exact ⟨F, _, rfl, by rw [HRc.out false false (by (rw [HAV.out, HK.out, HKb.out, HW1.out]; rfl)) HAV.out]; exact hfn.1, (Upd.below H2.out.2.1).trans hfn.2⟩
            · refine held_take (i := 8) (v := ?_) rfl (by kernel_rfl) (by kernel_rfl) (by kernel_rfl) (fun _ _ _ h => h) (Or.inl ⟨by rfl, ?_⟩) hHeld ?_
              rotate_left
              · intro w hSw; obtain ⟨hS1, hS2, hS3⟩ := hSw; go_simp; (try with_reducible rfl)
              try simp only [Act.put, List.setIfInBounds_toArray, List.set_cons_zero, List.set_cons_succ]
              refine held_take (i := 9) (v := ?_) rfl (by kernel_rfl) (by kernel_rfl) (by kernel_rfl) (fun _ _ _ h => h) (Or.inl ⟨by rfl, ?_⟩) hHeld ?_
              rotate_left
              · intro w hSw; obtain ⟨hS1, hS2, hS3⟩ := hSw; go_simp; (try with_reducible rfl)
              try simp only [Act.put, List.setIfInBounds_toArray, List.set_cons_zero, List.set_cons_succ]
              refine held_take (i := 10) (v := ?_) rfl (by kernel_rfl) (by kernel_rfl) (by kernel_rfl) (fun _ _ _ h => h) (Or.inl ⟨by rfl, ?_⟩) hHeld ?_
              rotate_left
              · intro w hSw; obtain ⟨hS1, hS2, hS3⟩ := hSw; go_simp; (try with_reducible rfl)
              try simp only [Act.put, List.setIfInBounds_toArray, List.set_cons_zero, List.set_cons_succ]
              refine held_take (i := 11) (v := ?_) rfl (by kernel_rfl) (by kernel_rfl) (by kernel_rfl) (fun _ _ _ h => h) (Or.inl ⟨by rfl, ?_⟩) hHeld ?_
              rotate_left
              · intro w hSw; obtain ⟨hS1, hS2, hS3⟩ := hSw; go_simp; (try with_reducible rfl)
              try simp only [Act.put, List.setIfInBounds_toArray, List.set_cons_zero, List.set_cons_succ]
              have hHeldA : (fun W => W.cell? ⟨bo, 0, none⟩ = some (.int .i64 f) ∧ W.cell? ⟨bo, 1, none⟩ = some (.int .i64 l) ∧ W.cell? ⟨bo, 2, none⟩ = some (.int .i64 c)) (w2.alloc (.cells #[.int .i64 f, .int .i64 l, .int .i64 c, .bool true, .bool true, .bool false] 90)).drew := by
                have hbA := (Below.new w2 (.cells #[.int .i64 f, .int .i64 l, .int .i64 c, .bool true, .bool true, .bool false] 90)).drew
                exact ⟨(hbA.cell (p := ⟨bo, 0, none⟩) HBx.out.1).trans hHeld.1, (hbA.cell (p := ⟨bo, 1, none⟩) HBx.out.1).trans hHeld.2.1, (hbA.cell (p := ⟨bo, 2, none⟩) HBx.out.1).trans hHeld.2.2⟩
              have HB3 := Lib.hid hHeld
              have hownA : (w2.alloc (.cells #[.int .i64 f, .int .i64 l, .int .i64 c, .bool true, .bool true, .bool false] 90)).drew.ownsRow base 90 6 (.slice po m co) m (condCells P.conds) := HO.out.1.alloc _
              have hboxA : (w2.alloc (.cells #[.int .i64 f, .int .i64 l, .int .i64 c, .bool true, .bool true, .bool false] 90)).drew.heap[w2.heap.size]? = _ := heap_alloc_new w2 _
              have hszA : (w2.alloc (.cells #[.int .i64 f, .int .i64 l, .int .i64 c, .bool true, .bool true, .bool false] 90)).drew.heap.size = w2.heap.size + 1 := World.size_alloc _ _
              have HA := Lib.hid (And.intro hHeldA (And.intro hownA (And.intro hboxA hszA)))
              clear hHeldA hownA hboxA hszA
              refine wpAnyH_ready (rs := [4, 12]) (by kernel_rfl) (by simp) ?_
              refine held_cons rfl (fun K hK => ?_) (held_cons rfl (fun K hK => ?_) AllReadyH.nil)
              · go_simp
                refine hK.out _ _ hHeld (fun _ => ?_)
                clear hK K
                try simp only [Act.put, List.setIfInBounds_toArray, List.set_cons_zero, List.set_cons_succ]
                refine wpAnyH_ready (rs := [12]) (by kernel_rfl) (by simp) ?_
                refine held_cons rfl (fun K hK => ?_) AllReadyH.nil
                go_simp
                obtain ⟨hHeldA, hownA, hboxA, hszA⟩ := HA.out
                refine hK.out _ _ hHeldA (fun _ => ?_)
                clear hHeld hK K
                have hHeld := hHeldA
                clear hHeldA
                try simp only [Act.put, List.setIfInBounds_toArray, List.set_cons_zero, List.set_cons_succ]
                refine wpAnyH_ready (rs := [13]) (by kernel_rfl) (by simp) ?_
                refine held_cons rfl (fun K hK => step_app rfl _ _ 84 rfl TCds base (.slice po m co) m (condCells P.conds) rfl hownA w2.heap.size 1 1 [.int .i64 f, .int .i64 l, .int .i64 c, .bool true, .bool true, .bool false] rfl _ hboxA rfl rfl (by simp [Value.oneCell']) Nat.one_pos (by omega) (by omega) (by rw [hszA]; have := HO.out.2.2.2; omega) ?_) AllReadyH.nil
                intro g5 cap5 w5 happ
                have hold : ∀ j, j < w2.heap.size → Value.ownBlock (.slice po m co) ≠ some j → w5.heap[j]? = w2.heap[j]? := fun j hj hne => (happ.old (by rw [hszA]; omega) hne).trans (heap_alloc_old w2 _ hj)
                have hHeldB : (fun W => W.cell? ⟨bo, 0, none⟩ = some (.int .i64 f) ∧ W.cell? ⟨bo, 1, none⟩ = some (.int .i64 l) ∧ W.cell? ⟨bo, 2, none⟩ = some (.int .i64 c)) w5 := by
                  have e := hold bo HBx.out.1 HBx.out.2.1
                  exact ⟨(World.cell?_of_block (a := ⟨bo, 0, none⟩) e).trans HB3.out.1, (World.cell?_of_block (a := ⟨bo, 1, none⟩) e).trans HB3.out.2.1, (World.cell?_of_block (a := ⟨bo, 2, none⟩) e).trans HB3.out.2.2⟩
                have e3 := hold bf HO.out.2.2.1 HO.out.2.1
                have hc3 := (World.cell?_of_block (a := ⟨bf, 2, none⟩) e3).trans c2
                have hf3 := (World.frozen?_of_block (a := ⟨bf, 2, none⟩) e3).trans f2
                have H5 := Lib.hid happ
                refine hK.out _ _ hHeldB (fun _ => ?_)
                clear hHeld hK K happ hold e3
                have hHeld := hHeldB
                clear hHeldB hownA hboxA hszA
                try simp only [Act.put, List.setIfInBounds_toArray, List.set_cons_zero, List.set_cons_succ]
                refine held_take (i := 14) (v := ?_) rfl (by kernel_rfl) (by kernel_rfl) (by kernel_rfl) (fun _ _ _ h => h) (Or.inl ⟨by rfl, ?_⟩) hHeld ?_
                rotate_left
                · intro w hSw; obtain ⟨hS1, hS2, hS3⟩ := hSw; go_simp; (try with_reducible rfl)
                try simp only [Act.put, List.setIfInBounds_toArray, List.set_cons_zero, List.set_cons_succ]
                refine held_take (i := 15) (v := ?_) rfl (by kernel_rfl) (by kernel_rfl) (by kernel_rfl) (fun _ _ _ h => h) (Or.inl ⟨by rfl, ?_⟩) hHeld ?_
                rotate_left
                · intro w hSw; obtain ⟨hS1, hS2, hS3⟩ := hSw; go_simp; (try with_reducible rfl)
                try simp only [Act.put, List.setIfInBounds_toArray, List.set_cons_zero, List.set_cons_succ]
                refine wpAnyH_ready (rs := [16]) (by kernel_rfl) (by simp) ?_
                refine held_cons rfl (fun K hK => ?_) AllReadyH.nil
                go_simp
                refine hK.out _ _ ?_ (fun _ => ?_)
                · exact ⟨(World.cell?_setCell_far _ _ _ _ (fun e => HBx.out.2.2 e)).trans hHeld.1, (World.cell?_setCell_far _ _ _ _ (fun e => HBx.out.2.2 e)).trans hHeld.2.1, (World.cell?_setCell_far _ _ _ _ (fun e => HBx.out.2.2 e)).trans hHeld.2.2⟩
                clear hK K
                try simp only [Act.put, List.setIfInBounds_toArray, List.set_cons_zero, List.set_cons_succ]
                refine wpAnyH_done (by kernel_rfl) ?_ _
                clear hc3 hf3 hHeld
                go_wp2_with fail
                go_end0
                have hend := H2.out.2.2.app ⟨f, l, c, true, true, false⟩ (o := .cells #[.int .i64 f, .int .i64 l, .int .i64 c, .bool true, .bool true, .bool false] 90) HM.out.1 (by omega) H5.out
                have hfn := H2.out.1.fnew ⟨_, hend.1, rfl⟩ (by rw [HX.out.2.2.2.2.2.2.1]; exact hend.2)
                exact ⟨F, _, rfl, by rw [HRc.out true true (by (rw [HAV.out, HK.out, HKb.out, HW1.out]; rfl)) HAV.out]; exact hfn.1, (Upd.below H2.out.2.1).trans hfn.2⟩
              · go_simp
                obtain ⟨hHeldA, hownA, hboxA, hszA⟩ := HA.out
                refine hK.out _ _ hHeldA (fun _ => ?_)
                clear hHeld hK K
                have hHeld := hHeldA
                clear hHeldA
                try simp only [Act.put, List.setIfInBounds_toArray, List.set_cons_zero, List.set_cons_succ]
                have c2A : (w2.alloc (.cells #[.int .i64 f, .int .i64 l, .int .i64 c, .bool true, .bool true, .bool false] 90)).drew.cell? ⟨bf, 2, none⟩ = some (.slice po m co) := ((Below.new w2 _).drew.cell (p := ⟨bf, 2, none⟩) HO.out.2.2.1).trans c2
                refine wpAnyH_ready (rs := [4]) (by kernel_rfl) (by simp) ?_
                refine held_cons rfl (fun K hK => ?_) AllReadyH.nil
                go_simp
                refine hK.out _ _ hHeld (fun _ => ?_)
                clear hK K c2A
                try simp only [Act.put, List.setIfInBounds_toArray, List.set_cons_zero, List.set_cons_succ]
                refine wpAnyH_ready (rs := [13]) (by kernel_rfl) (by simp) ?_
                refine held_cons rfl (fun K hK => step_app rfl _ _ 84 rfl TCds base (.slice po m co) m (condCells P.conds) rfl hownA w2.heap.size 1 1 [.int .i64 f, .int .i64 l, .int .i64 c, .bool true, .bool true, .bool false] rfl _ hboxA rfl rfl (by simp [Value.oneCell']) Nat.one_pos (by omega) (by omega) (by rw [hszA]; have := HO.out.2.2.2; omega) ?_) AllReadyH.nil
                intro g5 cap5 w5 happ
                have hold : ∀ j, j < w2.heap.size → Value.ownBlock (.slice po m co) ≠ some j → w5.heap[j]? = w2.heap[j]? := fun j hj hne => (happ.old (by rw [hszA]; omega) hne).trans (heap_alloc_old w2 _ hj)
                have hHeldB : (fun W => W.cell? ⟨bo, 0, none⟩ = some (.int .i64 f) ∧ W.cell? ⟨bo, 1, none⟩ = some (.int .i64 l) ∧ W.cell? ⟨bo, 2, none⟩ = some (.int .i64 c)) w5 := by
                  have e := hold bo HBx.out.1 HBx.out.2.1
                  exact ⟨(World.cell?_of_block (a := ⟨bo, 0, none⟩) e).trans HB3.out.1, (World.cell?_of_block (a := ⟨bo, 1, none⟩) e).trans HB3.out.2.1, (World.cell?_of_block (a := ⟨bo, 2, none⟩) e).trans HB3.out.2.2⟩
                have e3 := hold bf HO.out.2.2.1 HO.out.2.1
                have hc3 := (World.cell?_of_block (a := ⟨bf, 2, none⟩) e3).trans c2
                have hf3 := (World.frozen?_of_block (a := ⟨bf, 2, none⟩) e3).trans f2
                have H5 := Lib.hid happ
                refine hK.out _ _ hHeldB (fun _ => ?_)
                clear hHeld hK K happ hold e3
                have hHeld := hHeldB
                clear hHeldB hownA hboxA hszA
                try simp only [Act.put, List.setIfInBounds_toArray, List.set_cons_zero, List.set_cons_succ]
                refine held_take (i := 14) (v := ?_) rfl (by kernel_rfl) (by kernel_rfl) (by kernel_rfl) (fun _ _ _ h => h) (Or.inl ⟨by rfl, ?_⟩) hHeld ?_
                rotate_left
                · intro w hSw; obtain ⟨hS1, hS2, hS3⟩ := hSw; go_simp; (try with_reducible rfl)
                try simp only [Act.put, List.setIfInBounds_toArray, List.set_cons_zero, List.set_cons_succ]
                refine held_take (i := 15) (v := ?_) rfl (by kernel_rfl) (by kernel_rfl) (by kernel_rfl) (fun _ _ _ h => h) (Or.inl ⟨by rfl, ?_⟩) hHeld ?_
                rotate_left
                · intro w hSw; obtain ⟨hS1, hS2, hS3⟩ := hSw; go_simp; (try with_reducible rfl)
                try simp only [Act.put, List.setIfInBounds_toArray, List.set_cons_zero, List.set_cons_succ]
                refine wpAnyH_ready (rs := [16]) (by kernel_rfl) (by simp) ?_
                refine held_cons rfl (fun K hK => ?_) AllReadyH.nil
                go_simp
                refine hK.out _ _ ?_ (fun _ => ?_)
                · exact ⟨(World.cell?_setCell_far _ _ _ _ (fun e => HBx.out.2.2 e)).trans hHeld.1, (World.cell?_setCell_far _ _ _ _ (fun e => HBx.out.2.2 e)).trans hHeld.2.1, (World.cell?_setCell_far _ _ _ _ (fun e => HBx.out.2.2 e)).trans hHeld.2.2⟩
                clear hK K
                try simp only [Act.put, List.setIfInBounds_toArray, List.set_cons_zero, List.set_cons_succ]
                refine wpAnyH_done (by kernel_rfl) ?_ _
                clear hc3 hf3 hHeld
                go_wp2_with fail
                go_end0
                have hend := H2.out.2.2.app ⟨f, l, c, true, true, false⟩ (o := .cells #[.int .i64 f, .int .i64 l, .int .i64 c, .bool true, .bool true, .bool false] 90) HM.out.1 (by omega) H5.out
                have hfn := H2.out.1.fnew ⟨_, hend.1, rfl⟩ (by rw [HX.out.2.2.2.2.2.2.1]; exact hend.2)
                exact ⟨F, _, rfl, by rw [HRc.out true true (by (rw [HAV.out, HK.out, HKb.out, HW1.out]; rfl)) HAV.out]; exact hfn.1, (Upd.below H2.out.2.1).trans hfn.2⟩
        · rw [decide_eq_true hw] at hq2
          have hw1 : ¬ word = wIfdef := by rw [hw]; decide
          rw [decide_eq_false hw1] at hq1
          have HW1 := Lib.hid (decide_eq_false hw1)
          clear hw hw1
          cases kb
          · go_enter Tryz.func66, Tryz.ntmps66
            go_wp2_with fail
            refine (HNm.out _).mono ?_; rintro e wn ⟨rfl, rfl⟩
            go_wp2_with fail
            refine (counts_any HX.out.1.f).mono ?_; rintro e w2 ⟨rfl, hb2⟩
            have h2 := HX.out.1.below hb2
            have hb0 := Below.next HX.out.2.1 hb2
            have k2 := HX.out.2.2.1.next hb2
            have hf2 := HX.out.2.2.2.2.2.1.below hb2
            obtain ⟨bm, vt, vo, k, D, hx, hF⟩ := h2.x
            have x1 := hx.blk.cell (i := 1) rfl
            have hown := hx.mp
            have hdk := hx.dk rest
            rw [HK.out] at hdk
            rw [HBo.out] at k2
            have hk2 := k2
            have hbo1 : Value.ownBlock (.slice po m co) ≠ some bo := fun e => HX.out.2.2.2.2.1 bo (.inr (by rw [HX.out.2.2.2.2.2.2.1]; exact .inr e)) HBo.out.symm
            have hbo2 : bf ≠ bo := fun e => HX.out.2.2.2.2.1 bf (.inr (by rw [HX.out.2.2.2.2.2.2.1]; exact .inl rfl)) (e.trans HBo.out.symm)
            have f2 := hf2.blk.frz 2
            have c0 := hf2.blk.cell (i := 0) rfl
            have c2 := hf2.blk.cell (i := 2) rfl
            have d0 := k2.cell (i := 0) rfl
            have d1 := k2.cell (i := 1) rfl
            have d2 := k2.cell (i := 2) rfl
            have hcs2 := hf2.cs
            rw [HM.out.1] at hcs2
            have hne := hf2.ne
            have hlt2 := hf2.blk.lt
            have H2 := Lib.hid (And.intro h2 (And.intro hb0 hf2))
            obtain ⟨av, hav⟩ : ∃ av, countsP P = av := ⟨_, rfl⟩
            rw [hav]
            have HAV := Lib.hid hav
            clear h2 hb0 k2 hf2 hx hF hb2 a0 a2 e0 e1 e2 hav
            go_upto_region 12 with (first
                | (at_lookup; refine wpList_lookup_own_int _ rfl _ _ 61 rfl 9 3 .i64 keyS Tryz.underlying61 Tryz.underlying3 (zeroInt _) bm k D rfl hown _ _ rfl hkey ?_; intro c2 hat hwc; obtain rfl : c2 = (K : Int) := by (rw [hdk] at hat; injection hat with hat; injection hat with _ hat; exact hat.symm))
                | fail)
            clear hown hkey hdk x1
            have hbase : base ≤ w2.heap.size := by have := H2.out.2.2.gf; omega
            have HO := Lib.hid (And.intro hcs2 (And.intro hne (And.intro hlt2 hbase)))
            have HBx : Hid (bo < w2.heap.size ∧ Value.ownBlock (.slice po m co) ≠ some bo ∧ bf ≠ bo) := Lib.hid ⟨some_lt hk2, hbo1, hbo2⟩
            refine wp_region_held_drew (S := fun W => W.cell? ⟨bo, 0, none⟩ = some (.int .i64 f) ∧ W.cell? ⟨bo, 1, none⟩ = some (.int .i64 l) ∧ W.cell? ⟨bo, 2, none⟩ = some (.int .i64 c)) (by kernel_rfl) ?_ (fun hHeld => ?_)
            · exact ⟨d0, d1, d2⟩
            clear hcs2 hne hlt2 hk2 hbo1 hbo2 d0 d1 d2
            refine held_take (i := 0) (v := ?_) rfl (by kernel_rfl) (by kernel_rfl) (by kernel_rfl) (fun _ _ _ h => h) (Or.inl ⟨by rfl, ?_⟩) hHeld ?_
            rotate_left
            · intro w hSw; obtain ⟨hS1, hS2, hS3⟩ := hSw; go_simp; (try with_reducible rfl)
            try simp only [Act.put, List.setIfInBounds_toArray, List.set_cons_zero, List.set_cons_succ]
            refine held_take (i := 1) (v := ?_) rfl (by kernel_rfl) (by kernel_rfl) (by kernel_rfl) (fun _ _ _ h => h) (Or.inl ⟨by rfl, ?_⟩) hHeld ?_
            rotate_left
            · intro w hSw; obtain ⟨hS1, hS2, hS3⟩ := hSw; go_simp; (try with_reducible rfl)
            try simp only [Act.put, List.setIfInBounds_toArray, List.set_cons_zero, List.set_cons_succ]
            refine held_take (i := 2) (v := ?_) rfl (by kernel_rfl) (by kernel_rfl) (by kernel_rfl) (fun _ _ _ h => h) (Or.inl ⟨by rfl, ?_⟩) hHeld ?_
            rotate_left
            · intro w hSw; obtain ⟨hS1, hS2, hS3⟩ := hSw; go_simp; (try with_reducible rfl)
            try simp only [Act.put, List.setIfInBounds_toArray, List.set_cons_zero, List.set_cons_succ]
            refine held_take (i := 3) (v := ?_) rfl (by kernel_rfl) (by kernel_rfl) (by kernel_rfl) (fun _ _ _ h => h) (Or.inl ⟨by rfl, ?_⟩) hHeld ?_
            rotate_left
            · intro w hSw; obtain ⟨hS1, hS2, hS3⟩ := hSw; go_simp; (try with_reducible rfl)
            try simp only [Act.put, List.setIfInBounds_toArray, List.set_cons_zero, List.set_cons_succ]
            refine held_take (i := 5) (v := ?_) rfl (by kernel_rfl) (by kernel_rfl) (by kernel_rfl) (fun _ _ _ h => h) (Or.inl ⟨by rfl, ?_⟩) hHeld ?_
            rotate_left
            · intro w hSw; obtain ⟨hS1, hS2, hS3⟩ := hSw; go_simp; (try with_reducible rfl)
            try simp only [Act.put, List.setIfInBounds_toArray, List.set_cons_zero, List.set_cons_succ]
            refine held_take (i := 6) (v := ?_) rfl (by kernel_rfl) (by kernel_rfl) (by kernel_rfl) (fun _ _ _ h => h) (Or.inl ⟨by rfl, ?_⟩) hHeld ?_
            rotate_left
            · intro w hSw; obtain ⟨hS1, hS2, hS3⟩ := hSw; go_simp; (try with_reducible rfl)
            try simp only [Act.put, List.setIfInBounds_toArray, List.set_cons_zero, List.set_cons_succ]
            refine held_take (i := 7) (v := ?_) rfl (by kernel_rfl) (by kernel_rfl) (by kernel_rfl) (fun _ _ _ h => h) (Or.inl ⟨by rfl, ?_⟩) hHeld ?_
            rotate_left
            · intro w hSw; obtain ⟨hS1, hS2, hS3⟩ := hSw; go_simp; (try with_reducible rfl)
            try simp only [Act.put, List.setIfInBounds_toArray, List.set_cons_zero, List.set_cons_succ]
            cases av
            · refine held_take (i := 8) rfl (by kernel_rfl) (by kernel_rfl) (by kernel_rfl) (fun _ _ _ h => h) (Or.inr ⟨by rfl, rfl⟩) hHeld ?_
              try simp only [Act.put, List.setIfInBounds_toArray, List.set_cons_zero, List.set_cons_succ]
              refine held_take (i := 9) (v := ?_) rfl (by kernel_rfl) (by kernel_rfl) (by kernel_rfl) (fun _ _ _ h => h) (Or.inl ⟨by rfl, ?_⟩) hHeld ?_
              rotate_left
              · intro w hSw; obtain ⟨hS1, hS2, hS3⟩ := hSw; go_simp; (try with_reducible rfl)
              try simp only [Act.put, List.setIfInBounds_toArray, List.set_cons_zero, List.set_cons_succ]
              refine held_take (i := 10) (v := ?_) rfl (by kernel_rfl) (by kernel_rfl) (by kernel_rfl) (fun _ _ _ h => h) (Or.inl ⟨by rfl, ?_⟩) hHeld ?_
              rotate_left
              · intro w hSw; obtain ⟨hS1, hS2, hS3⟩ := hSw; go_simp; (try with_reducible rfl)
              try simp only [Act.put, List.setIfInBounds_toArray, List.set_cons_zero, List.set_cons_succ]
              refine held_take (i := 11) (v := ?_) rfl (by kernel_rfl) (by kernel_rfl) (by kernel_rfl) (fun _ _ _ h => h) (Or.inl ⟨by rfl, ?_⟩) hHeld ?_
              rotate_left
              · intro w hSw; obtain ⟨hS1, hS2, hS3⟩ := hSw; go_simp; (try with_reducible rfl)
              try simp only [Act.put, List.setIfInBounds_toArray, List.set_cons_zero, List.set_cons_succ]
              have hHeldA : (fun W => W.cell? ⟨bo, 0, none⟩ = some (.int .i64 f) ∧ W.cell? ⟨bo, 1, none⟩ = some (.int .i64 l) ∧ W.cell? ⟨bo, 2, none⟩ = some (.int .i64 c)) (w2.alloc (.cells #[.int .i64 f, .int .i64 l, .int .i64 c, .bool false, .bool false, .bool false] 90)).drew := by
                have hbA := (Below.new w2 (.cells #[.int .i64 f, .int .i64 l, .int .i64 c, .bool false, .bool false, .bool false] 90)).drew
                exact ⟨(hbA.cell (p := ⟨bo, 0, none⟩) HBx.out.1).trans hHeld.1, (hbA.cell (p := ⟨bo, 1, none⟩) HBx.out.1).trans hHeld.2.1, (hbA.cell (p := ⟨bo, 2, none⟩) HBx.out.1).trans hHeld.2.2⟩
              have HB3 := Lib.hid hHeld
              have hownA : (w2.alloc (.cells #[.int .i64 f, .int .i64 l, .int .i64 c, .bool false, .bool false, .bool false] 90)).drew.ownsRow base 90 6 (.slice po m co) m (condCells P.conds) := HO.out.1.alloc _
              have hboxA : (w2.alloc (.cells #[.int .i64 f, .int .i64 l, .int .i64 c, .bool false, .bool false, .bool false] 90)).drew.heap[w2.heap.size]? = _ := heap_alloc_new w2 _
              have hszA : (w2.alloc (.cells #[.int .i64 f, .int .i64 l, .int .i64 c, .bool false, .bool false, .bool false] 90)).drew.heap.size = w2.heap.size + 1 := World.size_alloc _ _
              have HA := Lib.hid (And.intro hHeldA (And.intro hownA (And.intro hboxA hszA)))
              clear hHeldA hownA hboxA hszA
              refine wpAnyH_ready (rs := [4, 12]) (by kernel_rfl) (by simp) ?_
              refine held_cons rfl (fun K hK => ?_) (held_cons rfl (fun K hK => ?_) AllReadyH.nil)
              · go_simp
                refine hK.out _ _ hHeld (fun _ => ?_)
                clear hK K
                try simp only [Act.put, List.setIfInBounds_toArray, List.set_cons_zero, List.set_cons_succ]
                refine wpAnyH_ready (rs := [12]) (by kernel_rfl) (by simp) ?_
                refine held_cons rfl (fun K hK => ?_) AllReadyH.nil
                go_simp
                obtain ⟨hHeldA, hownA, hboxA, hszA⟩ := HA.out
                refine hK.out _ _ hHeldA (fun _ => ?_)
                clear hHeld hK K
                have hHeld := hHeldA
                clear hHeldA
                try simp only [Act.put, List.setIfInBounds_toArray, List.set_cons_zero, List.set_cons_succ]
                refine wpAnyH_ready (rs := [13]) (by kernel_rfl) (by simp) ?_
                refine held_cons rfl (fun K hK => step_app rfl _ _ 84 rfl TCds base (.slice po m co) m (condCells P.conds) rfl hownA w2.heap.size 1 1 [.int .i64 f, .int .i64 l, .int .i64 c, .bool false, .bool false, .bool false] rfl _ hboxA rfl rfl (by simp [Value.oneCell']) Nat.one_pos (by omega) (by omega) (by rw [hszA]; have := HO.out.2.2.2; omega) ?_) AllReadyH.nil
                intro g5 cap5 w5 happ
                have hold : ∀ j, j < w2.heap.size → Value.ownBlock (.slice po m co) ≠ some j → w5.heap[j]? = w2.heap[j]? := fun j hj hne => (happ.old (by rw [hszA]; omega) hne).trans (heap_alloc_old w2 _ hj)
                have hHeldB : (fun W => W.cell? ⟨bo, 0, none⟩ = some (.int .i64 f) ∧ W.cell? ⟨bo, 1, none⟩ = some (.int .i64 l) ∧ W.cell? ⟨bo, 2, none⟩ = some (.int .i64 c)) w5 := by
                  have e := hold bo HBx.out.1 HBx.out.2.1
                  exact ⟨(World.cell?_of_block (a := ⟨bo, 0, none⟩) e).trans HB3.out.1, (World.cell?_of_block (a := ⟨bo, 1, none⟩) e).trans HB3.out.2.1, (World.cell?_of_block (a := ⟨bo, 2, none⟩) e).trans HB3.out.2.2⟩
                have e3 := hold bf HO.out.2.2.1 HO.out.2.1
                have hc3 := (World.cell?_of_block (a := ⟨bf, 2, none⟩) e3).trans c2
                have hf3 := (World.frozen?_of_block (a := ⟨bf, 2, none⟩) e3).trans f2
                have H5 := Lib.hid happ
                refine hK.out _ _ hHeldB (fun _ => ?_)
                clear hHeld hK K happ hold e3
                have hHeld := hHeldB
                clear hHeldB hownA hboxA hszA
                try simp only [Act.put, List.setIfInBounds_toArray, List.set_cons_zero, List.set_cons_succ]
                refine held_take (i := 14) (v := ?_) rfl (by kernel_rfl) (by kernel_rfl) (by kernel_rfl) (fun _ _ _ h => h) (Or.inl ⟨by rfl, ?_⟩) hHeld ?_
                rotate_left
                · intro w hSw; obtain ⟨hS1, hS2, hS3⟩ := hSw; go_simp; (try with_reducible rfl)
                try simp only [Act.put, List.setIfInBounds_toArray, List.set_cons_zero, List.set_cons_succ]
                refine held_take (i := 15) (v := ?_) rfl (by kernel_rfl) (by kernel_rfl) (by kernel_rfl) (fun _ _ _ h => h) (Or.inl ⟨by rfl, ?_⟩) hHeld ?_
                rotate_left
                · intro w hSw; obtain ⟨hS1, hS2, hS3⟩ := hSw; go_simp; (try with_reducible rfl)
                try simp only [Act.put, List.setIfInBounds_toArray, List.set_cons_zero, List.set_cons_succ]
                refine wpAnyH_ready (rs := [16]) (by kernel_rfl) (by simp) ?_
                refine held_cons rfl (fun K hK => ?_) AllReadyH.nil
                go_simp
                refine hK.out _ _ ?_ (fun _ => ?_)
                · exact ⟨(World.cell?_setCell_far _ _ _ _ (fun e => HBx.out.2.2 e)).trans hHeld.1, (World.cell?_setCell_far _ _ _ _ (fun e => HBx.out.2.2 e)).trans hHeld.2.1, (World.cell?_setCell_far _ _ _ _ (fun e => HBx.out.2.2 e)).trans hHeld.2.2⟩
                clear hK K
                try simp only [Act.put, List.setIfInBounds_toArray, List.set_cons_zero, List.set_cons_succ]
                refine wpAnyH_done (by kernel_rfl) ?_ _
                clear hc3 hf3 hHeld
                go_wp2_with fail
                go_end0
                have hend := H2.out.2.2.app ⟨f, l, c, false, false, false⟩ (o := .cells #[.int .i64 f, .int .i64 l, .int .i64 c, .bool false, .bool false, .bool false] 90) HM.out.1 (by omega) H5.out
                have hfn := H2.out.1.fnew ⟨_, hend.1, rfl⟩ (by rw [HX.out.2.2.2.2.2.2.1]; exact hend.2)
                exact ⟨F, _, rfl, by rw [HRc.out false false (by (rw [HAV.out, HK.out, HKb.out, HW1.out]; rfl)) HAV.out]; exact hfn.1, (Upd.below H2.out.2.1).trans hfn.2⟩
              · go_simp
                obtain ⟨hHeldA, hownA, hboxA, hszA⟩ := HA.out
                refine hK.out _ _ hHeldA (fun _ => ?_)
                clear hHeld hK K
                have hHeld := hHeldA
                clear hHeldA
                try simp only [Act.put, List.setIfInBounds_toArray, List.set_cons_zero, List.set_cons_succ]
                have c2A : (w2.alloc (.cells #[.int .i64 f, .int .i64 l, .int .i64 c, .bool false, .bool false, .bool false] 90)).drew.cell? ⟨bf, 2, none⟩ = some (.slice po m co) := ((Below.new w2 _).drew.cell (p := ⟨bf, 2, none⟩) HO.out.2.2.1).trans c2
                refine wpAnyH_ready (rs := [4]) (by kernel_rfl) (by simp) ?_
                refine held_cons rfl (fun K hK => ?_) AllReadyH.nil
                go_simp
                refine hK.out _ _ hHeld (fun _ => ?_)
                clear hK K c2A
                try simp only [Act.put, List.setIfInBounds_toArray, List.set_cons_zero, List.set_cons_succ]
                refine wpAnyH_ready (rs := [13]) (by kernel_rfl) (by simp) ?_
                refine held_cons rfl (fun K hK => step_app rfl _ _ 84 rfl TCds base (.slice po m co) m (condCells P.conds) rfl hownA w2.heap.size 1 1 [.int .i64 f, .int .i64 l, .int .i64 c, .bool false, .bool false, .bool false] rfl _ hboxA rfl rfl (by simp [Value.oneCell']) Nat.one_pos (by omega) (by omega) (by rw [hszA]; have := HO.out.2.2.2; omega) ?_) AllReadyH.nil
                intro g5 cap5 w5 happ
                have hold : ∀ j, j < w2.heap.size → Value.ownBlock (.slice po m co) ≠ some j → w5.heap[j]? = w2.heap[j]? := fun j hj hne => (happ.old (by rw [hszA]; omega) hne).trans (heap_alloc_old w2 _ hj)
                have hHeldB : (fun W => W.cell? ⟨bo, 0, none⟩ = some (.int .i64 f) ∧ W.cell? ⟨bo, 1, none⟩ = some (.int .i64 l) ∧ W.cell? ⟨bo, 2, none⟩ = some (.int .i64 c)) w5 := by
                  have e := hold bo HBx.out.1 HBx.out.2.1
                  exact ⟨(World.cell?_of_block (a := ⟨bo, 0, none⟩) e).trans HB3.out.1, (World.cell?_of_block (a := ⟨bo, 1, none⟩) e).trans HB3.out.2.1, (World.cell?_of_block (a := ⟨bo, 2, none⟩) e).trans HB3.out.2.2⟩
                have e3 := hold bf HO.out.2.2.1 HO.out.2.1
                have hc3 := (World.cell?_of_block (a := ⟨bf, 2, none⟩) e3).trans c2
                have hf3 := (World.frozen?_of_block (a := ⟨bf, 2, none⟩) e3).trans f2
                have H5 := Lib.hid happ
                refine hK.out _ _ hHeldB (fun _ => ?_)
                clear hHeld hK K happ hold e3
                have hHeld := hHeldB
                clear hHeldB hownA hboxA hszA
                try simp only [Act.put, List.setIfInBounds_toArray, List.set_cons_zero, List.set_cons_succ]
                refine held_take (i := 14) (v := ?_) rfl (by kernel_rfl) (by kernel_rfl) (by kernel_rfl) (fun _ _ _ h => h) (Or.inl ⟨by rfl, ?_⟩) hHeld ?_
                rotate_left
                · intro w hSw; obtain ⟨hS1, hS2, hS3⟩ := hSw; go_simp; (try with_reducible rfl)
                try simp only [Act.put, List.setIfInBounds_toArray, List.set_cons_zero, List.set_cons_succ]
                refine held_take (i := 15) (v := ?_) rfl (by kernel_rfl) (by kernel_rfl) (by kernel_rfl) (fun _ _ _ h => h) (Or.inl ⟨by rfl, ?_⟩) hHeld ?_
                rotate_left
                · intro w hSw; obtain ⟨hS1, hS2, hS3⟩ := hSw; go_simp; (try with_reducible rfl)
                try simp only [Act.put, List.setIfInBounds_toArray, List.set_cons_zero, List.set_cons_succ]
                refine wpAnyH_ready (rs := [16]) (by kernel_rfl) (by simp) ?_
                refine held_cons rfl (fun K hK => ?_) AllReadyH.nil
                go_simp
                refine hK.out _ _ ?_ (fun _ => ?_)
                · exact ⟨(World.cell?_setCell_far _ _ _ _ (fun e => HBx.out.2.2 e)).trans hHeld.1, (World.cell?_setCell_far _ _ _ _ (fun e => HBx.out.2.2 e)).trans hHeld.2.1, (World.cell?_setCell_far _ _ _ _ (fun e => HBx.out.2.2 e)).trans hHeld.2.2⟩
                clear hK K
                try simp only [Act.put, List.setIfInBounds_toArray, List.set_cons_zero, List.set_cons_succ]
                refine wpAnyH_done (by kernel_rfl) ?_ _
                clear hc3 hf3 hHeld
                go_wp2_with fail
                go_end0
                have hend := H2.out.2.2.app ⟨f, l, c, false, false, false⟩ (o := .cells #[.int .i64 f, .int .i64 l, .int .i64 c, .bool false, .bool false, .bool false] 90) HM.out.1 (by omega) H5.out
                have hfn := H2.out.1.fnew ⟨_, hend.1, rfl⟩ (by rw [HX.out.2.2.2.2.2.2.1]; exact hend.2)
                exact ⟨F, _, rfl, by rw [HRc.out false false (by (rw [HAV.out, HK.out, HKb.out, HW1.out]; rfl)) HAV.out]; exact hfn.1, (Upd.below H2.out.2.1).trans hfn.2⟩
            · refine held_take (i := 8) (v := ?_) rfl (by kernel_rfl) (by kernel_rfl) (by kernel_rfl) (fun _ _ _ h => h) (Or.inl ⟨by rfl, ?_⟩) hHeld ?_
              rotate_left
              · intro w hSw; obtain ⟨hS1, hS2, hS3⟩ := hSw; go_simp; (try with_reducible rfl)
              try simp only [Act.put, List.setIfInBounds_toArray, List.set_cons_zero, List.set_cons_succ]
              refine held_take (i := 9) (v := ?_) rfl (by kernel_rfl) (by kernel_rfl) (by kernel_rfl) (fun _ _ _ h => h) (Or.inl ⟨by rfl, ?_⟩) hHeld ?_
              rotate_left
              · intro w hSw; obtain ⟨hS1, hS2, hS3⟩ := hSw; go_simp; (try with_reducible rfl)
              try simp only [Act.put, List.setIfInBounds_toArray, List.set_cons_zero, List.set_cons_succ]
              refine held_take (i := 10) (v := ?_) rfl (by kernel_rfl) (by kernel_rfl) (by kernel_rfl) (fun _ _ _ h => h) (Or.inl ⟨by rfl, ?_⟩) hHeld ?_
              rotate_left
              · intro w hSw; obtain ⟨hS1, hS2, hS3⟩ := hSw; go_simp; (try with_reducible rfl)
              try simp only [Act.put, List.setIfInBounds_toArray, List.set_cons_zero, List.set_cons_succ]
              refine held_take (i := 11) (v := ?_) rfl (by kernel_rfl) (by kernel_rfl) (by kernel_rfl) (fun _ _ _ h => h) (Or.inl ⟨by rfl, ?_⟩) hHeld ?_
              rotate_left
              · intro w hSw; obtain ⟨hS1, hS2, hS3⟩ := hSw; go_simp; (try with_reducible rfl)
              try simp only [Act.put, List.setIfInBounds_toArray, List.set_cons_zero, List.set_cons_succ]
              have hHeldA : (fun W => W.cell? ⟨bo, 0, none⟩ = some (.int .i64 f) ∧ W.cell? ⟨bo, 1, none⟩ = some (.int .i64 l) ∧ W.cell? ⟨bo, 2, none⟩ = some (.int .i64 c)) (w2.alloc (.cells #[.int .i64 f, .int .i64 l, .int .i64 c, .bool true, .bool true, .bool false] 90)).drew := by
                have hbA := (Below.new w2 (.cells #[.int .i64 f, .int .i64 l, .int .i64 c, .bool true, .bool true, .bool false] 90)).drew
                exact ⟨(hbA.cell (p := ⟨bo, 0, none⟩) HBx.out.1).trans hHeld.1, (hbA.cell (p := ⟨bo, 1, none⟩) HBx.out.1).trans hHeld.2.1, (hbA.cell (p := ⟨bo, 2, none⟩) HBx.out.1).trans hHeld.2.2⟩
              have HB3 := Lib.hid hHeld
              have hownA : (w2.alloc (.cells #[.int .i64 f, .int .i64 l, .int .i64 c, .bool true, .bool true, .bool false] 90)).drew.ownsRow base 90 6 (.slice po m co) m (condCells P.conds) := HO.out.1.alloc _
              have hboxA : (w2.alloc (.cells #[.int .i64 f, .int .i64 l, .int .i64 c, .bool true, .bool true, .bool false] 90)).drew.heap[w2.heap.size]? = _ := heap_alloc_new w2 _
              have hszA : (w2.alloc (.cells #[.int .i64 f, .int .i64 l, .int .i64 c, .bool true, .bool true, .bool false] 90)).drew.heap.size = w2.heap.size + 1 := World.size_alloc _ _
              have HA := Lib.hid (And.intro hHeldA (And.intro hownA (And.intro hboxA hszA)))
              clear hHeldA hownA hboxA hszA
              refine wpAnyH_ready (rs := [4, 12]) (by kernel_rfl) (by simp) ?_
              refine held_cons rfl (fun K hK => ?_) (held_cons rfl (fun K hK => ?_) AllReadyH.nil)
              · go_simp
                refine hK.out _ _ hHeld (fun _ => ?_)
                clear hK K
                try simp only [Act.put, List.setIfInBounds_toArray, List.set_cons_zero, List.set_cons_succ]
                refine wpAnyH_ready (rs := [12]) (by kernel_rfl) (by simp) ?_
                refine held_cons rfl (fun K hK => ?_) AllReadyH.nil
                go_simp
                obtain ⟨hHeldA, hownA, hboxA, hszA⟩ := HA.out
                refine hK.out _ _ hHeldA (fun _ => ?_)
                clear hHeld hK K
                have hHeld := hHeldA
                clear hHeldA
                try simp only [Act.put, List.setIfInBounds_toArray, List.set_cons_zero, List.set_cons_succ]
                refine wpAnyH_ready (rs := [13]) (by kernel_rfl) (by simp) ?_
                refine held_cons rfl (fun K hK => step_app rfl _ _ 84 rfl TCds base (.slice po m co) m (condCells P.conds) rfl hownA w2.heap.size 1 1 [.int .i64 f, .int .i64 l, .int .i64 c, .bool true, .bool true, .bool false] rfl _ hboxA rfl rfl (by simp [Value.oneCell']) Nat.one_pos (by omega) (by omega) (by rw [hszA]; have := HO.out.2.2.2; omega) ?_) AllReadyH.nil
                intro g5 cap5 w5 happ
                have hold : ∀ j, j < w2.heap.size → Value.ownBlock (.slice po m co) ≠ some j → w5.heap[j]? = w2.heap[j]? := fun j hj hne => (happ.old (by rw [hszA]; omega) hne).trans (heap_alloc_old w2 _ hj)
                have hHeldB : (fun W => W.cell? ⟨bo, 0, none⟩ = some (.int .i64 f) ∧ W.cell? ⟨bo, 1, none⟩ = some (.int .i64 l) ∧ W.cell? ⟨bo, 2, none⟩ = some (.int .i64 c)) w5 := by
                  have e := hold bo HBx.out.1 HBx.out.2.1
                  exact ⟨(World.cell?_of_block (a := ⟨bo, 0, none⟩) e).trans HB3.out.1, (World.cell?_of_block (a := ⟨bo, 1, none⟩) e).trans HB3.out.2.1, (World.cell?_of_block (a := ⟨bo, 2, none⟩) e).trans HB3.out.2.2⟩
                have e3 := hold bf HO.out.2.2.1 HO.out.2.1
                have hc3 := (World.cell?_of_block (a := ⟨bf, 2, none⟩) e3).trans c2
                have hf3 := (World.frozen?_of_block (a := ⟨bf, 2, none⟩) e3).trans f2
                have H5 := Lib.hid happ
                refine hK.out _ _ hHeldB (fun _ => ?_)
                clear hHeld hK K happ hold e3
                have hHeld := hHeldB
                clear hHeldB hownA hboxA hszA
                try simp only [Act.put, List.setIfInBounds_toArray, List.set_cons_zero, List.set_cons_succ]
                refine held_take (i := 14) (v := ?_) rfl (by kernel_rfl) (by kernel_rfl) (by kernel_rfl) (fun _ _ _ h => h) (Or.inl ⟨by rfl, ?_⟩) hHeld ?_
                rotate_left
                · intro w hSw; obtain ⟨hS1, hS2, hS3⟩ := hSw; go_simp; (try with_reducible rfl)
                try simp only [Act.put, List.setIfInBounds_toArray, List.set_cons_zero, List.set_cons_succ]
                refine held_take (i := 15) (v := ?_) rfl (by kernel_rfl) (by kernel_rfl) (by kernel_rfl) (fun _ _ _ h => h) (Or.inl ⟨by rfl, ?_⟩) hHeld ?_
                rotate_left
                · intro w hSw; obtain ⟨hS1, hS2, hS3⟩ := hSw; go_simp; (try with_reducible rfl)
                try simp only [Act.put, List.setIfInBounds_toArray, List.set_cons_zero, List.set_cons_succ]
                refine wpAnyH_ready (rs := [16]) (by kernel_rfl) (by simp) ?_
                refine held_cons rfl (fun K hK => ?_) AllReadyH.nil
                go_simp
                refine hK.out _ _ ?_ (fun _ => ?_)
                · exact ⟨(World.cell?_setCell_far _ _ _ _ (fun e => HBx.out.2.2 e)).trans hHeld.1, (World.cell?_setCell_far _ _ _ _ (fun e => HBx.out.2.2 e)).trans hHeld.2.1, (World.cell?_setCell_far _ _ _ _ (fun e => HBx.out.2.2 e)).trans hHeld.2.2⟩
                clear hK K
                try simp only [Act.put, List.setIfInBounds_toArray, List.set_cons_zero, List.set_cons_succ]
                refine wpAnyH_done (by kernel_rfl) ?_ _
                clear hc3 hf3 hHeld
                go_wp2_with fail
                go_end0
                have hend := H2.out.2.2.app ⟨f, l, c, true, true, false⟩ (o := .cells #[.int .i64 f, .int .i64 l, .int .i64 c, .bool true, .bool true, .bool false] 90) HM.out.1 (by omega) H5.out
                have hfn := H2.out.1.fnew ⟨_, hend.1, rfl⟩ (by rw [HX.out.2.2.2.2.2.2.1]; exact hend.2)
                exact ⟨F, _, rfl, by rw [HRc.out true true (by (rw [HAV.out, HK.out, HKb.out, HW1.out]; rfl)) HAV.out]; exact hfn.1, (Upd.below H2.out.2.1).trans hfn.2⟩
              · go_simp
                obtain ⟨hHeldA, hownA, hboxA, hszA⟩ := HA.out
                refine hK.out _ _ hHeldA (fun _ => ?_)
                clear hHeld hK K
                have hHeld := hHeldA
                clear hHeldA
                try simp only [Act.put, List.setIfInBounds_toArray, List.set_cons_zero, List.set_cons_succ]
                have c2A : (w2.alloc (.cells #[.int .i64 f, .int .i64 l, .int .i64 c, .bool true, .bool true, .bool false] 90)).drew.cell? ⟨bf, 2, none⟩ = some (.slice po m co) := ((Below.new w2 _).drew.cell (p := ⟨bf, 2, none⟩) HO.out.2.2.1).trans c2
                refine wpAnyH_ready (rs := [4]) (by kernel_rfl) (by simp) ?_
                refine held_cons rfl (fun K hK => ?_) AllReadyH.nil
                go_simp
                refine hK.out _ _ hHeld (fun _ => ?_)
                clear hK K c2A
                try simp only [Act.put, List.setIfInBounds_toArray, List.set_cons_zero, List.set_cons_succ]
                refine wpAnyH_ready (rs := [13]) (by kernel_rfl) (by simp) ?_
                refine held_cons rfl (fun K hK => step_app rfl _ _ 84 rfl TCds base (.slice po m co) m (condCells P.conds) rfl hownA w2.heap.size 1 1 [.int .i64 f, .int .i64 l, .int .i64 c, .bool true, .bool true, .bool false] rfl _ hboxA rfl rfl (by simp [Value.oneCell']) Nat.one_pos (by omega) (by omega) (by rw [hszA]; have := HO.out.2.2.2; omega) ?_) AllReadyH.nil
                intro g5 cap5 w5 happ
                have hold : ∀ j, j < w2.heap.size → Value.ownBlock (.slice po m co) ≠ some j → w5.heap[j]? = w2.heap[j]? := fun j hj hne => (happ.old (by rw [hszA]; omega) hne).trans (heap_alloc_old w2 _ hj)
                have hHeldB : (fun W => W.cell? ⟨bo, 0, none⟩ = some (.int .i64 f) ∧ W.cell? ⟨bo, 1, none⟩ = some (.int .i64 l) ∧ W.cell? ⟨bo, 2, none⟩ = some (.int .i64 c)) w5 := by
                  have e := hold bo HBx.out.1 HBx.out.2.1
                  exact ⟨(World.cell?_of_block (a := ⟨bo, 0, none⟩) e).trans HB3.out.1, (World.cell?_of_block (a := ⟨bo, 1, none⟩) e).trans HB3.out.2.1, (World.cell?_of_block (a := ⟨bo, 2, none⟩) e).trans HB3.out.2.2⟩
                have e3 := hold bf HO.out.2.2.1 HO.out.2.1
                have hc3 := (World.cell?_of_block (a := ⟨bf, 2, none⟩) e3).trans c2
                have hf3 := (World.frozen?_of_block (a := ⟨bf, 2, none⟩) e3).trans f2
                have H5 := Lib.hid happ
                refine hK.out _ _ hHeldB (fun _ => ?_)
                clear hHeld hK K happ hold e3
                have hHeld := hHeldB
                clear hHeldB hownA hboxA hszA
                try simp only [Act.put, List.setIfInBounds_toArray, List.set_cons_zero, List.set_cons_succ]
                refine held_take (i := 14) (v := ?_) rfl (by kernel_rfl) (by kernel_rfl) (by kernel_rfl) (fun _ _ _ h => h) (Or.inl ⟨by rfl, ?_⟩) hHeld ?_
                rotate_left
                · intro w hSw; obtain ⟨hS1, hS2, hS3⟩ := hSw; go_simp; (try with_reducible rfl)
                try simp only [Act.put, List.setIfInBounds_toArray, List.set_cons_zero, List.set_cons_succ]
                refine held_take (i := 15) (v := ?_) rfl (by kernel_rfl) (by kernel_rfl) (by kernel_rfl) (fun _ _ _ h => h) (Or.inl ⟨by rfl, ?_⟩) hHeld ?_
                rotate_left
                · intro w hSw; obtain ⟨hS1, hS2, hS3⟩ := hSw; go_simp; (try with_reducible rfl)
                try simp only [Act.put, List.setIfInBounds_toArray, List.set_cons_zero, List.set_cons_succ]
                refine wpAnyH_ready (rs := [16]) (by kernel_rfl) (by simp) ?_
                refine held_cons rfl (fun K hK => ?_) AllReadyH.nil
                go_simp
                refine hK.out _ _ ?_ (fun _ => ?_)
                · exact ⟨(World.cell?_setCell_far _ _ _ _ (fun e => HBx.out.2.2 e)).trans hHeld.1, (World.cell?_setCell_far _ _ _ _ (fun e => HBx.out.2.2 e)).trans hHeld.2.1, (World.cell?_setCell_far _ _ _ _ (fun e => HBx.out.2.2 e)).trans hHeld.2.2⟩
                clear hK K
                try simp only [Act.put, List.setIfInBounds_toArray, List.set_cons_zero, List.set_cons_succ]
                refine wpAnyH_done (by kernel_rfl) ?_ _
                clear hc3 hf3 hHeld
                go_wp2_with fail
                go_end0
                have hend := H2.out.2.2.app ⟨f, l, c, true, true, false⟩ (o := .cells #[.int .i64 f, .int .i64 l, .int .i64 c, .bool true, .bool true, .bool false] 90) HM.out.1 (by omega) H5.out
                have hfn := H2.out.1.fnew ⟨_, hend.1, rfl⟩ (by rw [HX.out.2.2.2.2.2.2.1]; exact hend.2)
                exact ⟨F, _, rfl, by rw [HRc.out true true (by (rw [HAV.out, HK.out, HKb.out, HW1.out]; rfl)) HAV.out]; exact hfn.1, (Upd.below H2.out.2.1).trans hfn.2⟩
          · go_enter Tryz.func66, Tryz.ntmps66
            go_wp2_with fail
            refine (HNm.out _).mono ?_; rintro e wn ⟨rfl, rfl⟩
            go_wp2_with fail
            refine (counts_any HX.out.1.f).mono ?_; rintro e w2 ⟨rfl, hb2⟩
            have h2 := HX.out.1.below hb2
            have hb0 := Below.next HX.out.2.1 hb2
            have k2 := HX.out.2.2.1.next hb2
            have hf2 := HX.out.2.2.2.2.2.1.below hb2
            obtain ⟨bm, vt, vo, k, D, hx, hF⟩ := h2.x
            have x1 := hx.blk.cell (i := 1) rfl
            have hown := hx.mp
            have hdk := hx.dk rest
            rw [HK.out] at hdk
            rw [HBo.out] at k2
            have hk2 := k2
            have hbo1 : Value.ownBlock (.slice po m co) ≠ some bo := fun e => HX.out.2.2.2.2.1 bo (.inr (by rw [HX.out.2.2.2.2.2.2.1]; exact .inr e)) HBo.out.symm
            have hbo2 : bf ≠ bo := fun e => HX.out.2.2.2.2.1 bf (.inr (by rw [HX.out.2.2.2.2.2.2.1]; exact .inl rfl)) (e.trans HBo.out.symm)
            have f2 := hf2.blk.frz 2
            have c0 := hf2.blk.cell (i := 0) rfl
            have c2 := hf2.blk.cell (i := 2) rfl
            have d0 := k2.cell (i := 0) rfl
            have d1 := k2.cell (i := 1) rfl
            have d2 := k2.cell (i := 2) rfl
            have hcs2 := hf2.cs
            rw [HM.out.1] at hcs2
            have hne := hf2.ne
            have hlt2 := hf2.blk.lt
            have H2 := Lib.hid (And.intro h2 (And.intro hb0 hf2))
            obtain ⟨av, hav⟩ : ∃ av, countsP P = av := ⟨_, rfl⟩
            rw [hav]
            have HAV := Lib.hid hav
            clear h2 hb0 k2 hf2 hx hF hb2 a0 a2 e0 e1 e2 hav
            go_upto_region 12 with (first
                | (at_lookup; refine wpList_lookup_own_int _ rfl _ _ 61 rfl 9 3 .i64 keyS Tryz.underlying61 Tryz.underlying3 (zeroInt _) bm k D rfl hown _ _ rfl hkey ?_; intro c2 hat hwc; obtain rfl : c2 = (K : Int) := by (rw [hdk] at hat; injection hat with hat; injection hat with _ hat; exact hat.symm))
                | fail)
            clear hown hkey hdk x1
            have hbase : base ≤ w2.heap.size := by have := H2.out.2.2.gf; omega
            have HO := Lib.hid (And.intro hcs2 (And.intro hne (And.intro hlt2 hbase)))
            have HBx : Hid (bo < w2.heap.size ∧ Value.ownBlock (.slice po m co) ≠ some bo ∧ bf ≠ bo) := Lib.hid ⟨some_lt hk2, hbo1, hbo2⟩
            refine wp_region_held_drew (S := fun W => W.cell? ⟨bo, 0, none⟩ = some (.int .i64 f) ∧ W.cell? ⟨bo, 1, none⟩ = some (.int .i64 l) ∧ W.cell? ⟨bo, 2, none⟩ = some (.int .i64 c)) (by kernel_rfl) ?_ (fun hHeld => ?_)
            · exact ⟨d0, d1, d2⟩
            clear hcs2 hne hlt2 hk2 hbo1 hbo2 d0 d1 d2
            refine held_take (i := 0) (v := ?_) rfl (by kernel_rfl) (by kernel_rfl) (by kernel_rfl) (fun _ _ _ h => h) (Or.inl ⟨by rfl, ?_⟩) hHeld ?_
            rotate_left
            · intro w hSw; obtain ⟨hS1, hS2, hS3⟩ := hSw; go_simp; (try with_reducible rfl)
            try simp only [Act.put, List.setIfInBounds_toArray, List.set_cons_zero, List.set_cons_succ]
            refine held_take (i := 1) (v := ?_) rfl (by kernel_rfl) (by kernel_rfl) (by kernel_rfl) (fun _ _ _ h => h) (Or.inl ⟨by rfl, ?_⟩) hHeld ?_
            rotate_left
            · intro w hSw; obtain ⟨hS1, hS2, hS3⟩ := hSw; go_simp; (try with_reducible rfl)
            try simp only [Act.put, List.setIfInBounds_toArray, List.set_cons_zero, List.set_cons_succ]
            refine held_take (i := 2) (v := ?_) rfl (by kernel_rfl) (by kernel_rfl) (by kernel_rfl) (fun _ _ _ h => h) (Or.inl ⟨by rfl, ?_⟩) hHeld ?_
            rotate_left
            · intro w hSw; obtain ⟨hS1, hS2, hS3⟩ := hSw; go_simp; (try with_reducible rfl)
            try simp only [Act.put, List.setIfInBounds_toArray, List.set_cons_zero, List.set_cons_succ]
            refine held_take (i := 3) (v := ?_) rfl (by kernel_rfl) (by kernel_rfl) (by kernel_rfl) (fun _ _ _ h => h) (Or.inl ⟨by rfl, ?_⟩) hHeld ?_
            rotate_left
            · intro w hSw; obtain ⟨hS1, hS2, hS3⟩ := hSw; go_simp; (try with_reducible rfl)
            try simp only [Act.put, List.setIfInBounds_toArray, List.set_cons_zero, List.set_cons_succ]
            refine held_take (i := 5) (v := ?_) rfl (by kernel_rfl) (by kernel_rfl) (by kernel_rfl) (fun _ _ _ h => h) (Or.inl ⟨by rfl, ?_⟩) hHeld ?_
            rotate_left
            · intro w hSw; obtain ⟨hS1, hS2, hS3⟩ := hSw; go_simp; (try with_reducible rfl)
            try simp only [Act.put, List.setIfInBounds_toArray, List.set_cons_zero, List.set_cons_succ]
            refine held_take (i := 6) (v := ?_) rfl (by kernel_rfl) (by kernel_rfl) (by kernel_rfl) (fun _ _ _ h => h) (Or.inl ⟨by rfl, ?_⟩) hHeld ?_
            rotate_left
            · intro w hSw; obtain ⟨hS1, hS2, hS3⟩ := hSw; go_simp; (try with_reducible rfl)
            try simp only [Act.put, List.setIfInBounds_toArray, List.set_cons_zero, List.set_cons_succ]
            refine held_take (i := 7) (v := ?_) rfl (by kernel_rfl) (by kernel_rfl) (by kernel_rfl) (fun _ _ _ h => h) (Or.inl ⟨by rfl, ?_⟩) hHeld ?_
            rotate_left
            · intro w hSw; obtain ⟨hS1, hS2, hS3⟩ := hSw; go_simp; (try with_reducible rfl)
            try simp only [Act.put, List.setIfInBounds_toArray, List.set_cons_zero, List.set_cons_succ]
            cases av
            · refine held_take (i := 8) rfl (by kernel_rfl) (by kernel_rfl) (by kernel_rfl) (fun _ _ _ h => h) (Or.inr ⟨by rfl, rfl⟩) hHeld ?_
              try simp only [Act.put, List.setIfInBounds_toArray, List.set_cons_zero, List.set_cons_succ]
              refine held_take (i := 9) (v := ?_) rfl (by kernel_rfl) (by kernel_rfl) (by kernel_rfl) (fun _ _ _ h => h) (Or.inl ⟨by rfl, ?_⟩) hHeld ?_
              rotate_left
              · intro w hSw; obtain ⟨hS1, hS2, hS3⟩ := hSw; go_simp; (try with_reducible rfl)
              try simp only [Act.put, List.setIfInBounds_toArray, List.set_cons_zero, List.set_cons_succ]
              refine held_take (i := 10) (v := ?_) rfl (by kernel_rfl) (by kernel_rfl) (by kernel_rfl) (fun _ _ _ h => h) (Or.inl ⟨by rfl, ?_⟩) hHeld ?_
              rotate_left
              · intro w hSw; obtain ⟨hS1, hS2, hS3⟩ := hSw; go_simp; (try with_reducible rfl)
              try simp only [Act.put, List.setIfInBounds_toArray, List.set_cons_zero, List.set_cons_succ]
              refine held_take (i := 11) (v := ?_) rfl (by kernel_rfl) (by kernel_rfl) (by kernel_rfl) (fun _ _ _ h => h) (Or.inl ⟨by rfl, ?_⟩) hHeld ?_
              rotate_left
              · intro w hSw; obtain ⟨hS1, hS2, hS3⟩ := hSw; go_simp; (try with_reducible rfl)
              try simp only [Act.put, List.setIfInBounds_toArray, List.set_cons_zero, List.set_cons_succ]
              have hHeldA : (fun W => W.cell? ⟨bo, 0, none⟩ = some (.int .i64 f) ∧ W.cell? ⟨bo, 1, none⟩ = some (.int .i64 l) ∧ W.cell? ⟨bo, 2, none⟩ = some (.int .i64 c)) (w2.alloc (.cells #[.int .i64 f, .int .i64 l, .int .i64 c, .bool false, .bool false, .bool false] 90)).drew := by
                have hbA := (Below.new w2 (.cells #[.int .i64 f, .int .i64 l, .int .i64 c, .bool false, .bool false, .bool false] 90)).drew
                exact ⟨(hbA.cell (p := ⟨bo, 0, none⟩) HBx.out.1).trans hHeld.1, (hbA.cell (p := ⟨bo, 1, none⟩) HBx.out.1).trans hHeld.2.1, (hbA.cell (p := ⟨bo, 2, none⟩) HBx.out.1).trans hHeld.2.2⟩
              have HB3 := Lib.hid hHeld
              have hownA : (w2.alloc (.cells #[.int .i64 f, .int .i64 l, .int .i64 c, .bool false, .bool false, .bool false] 90)).drew.ownsRow base 90 6 (.slice po m co) m (condCells P.conds) := HO.out.1.alloc _
              have hboxA : (w2.alloc (.cells #[.int .i64 f, .int .i64 l, .int .i64 c, .bool false, .bool false, .bool false] 90)).drew.heap[w2.heap.size]? = _ := heap_alloc_new w2 _
              have hszA : (w2.alloc (.cells #[.int .i64 f, .int .i64 l, .int .i64 c, .bool false, .bool false, .bool false] 90)).drew.heap.size = w2.heap.size + 1 := World.size_alloc _ _
              have HA := Lib.hid (And.intro hHeldA (And.intro hownA (And.intro hboxA hszA)))
              clear hHeldA hownA hboxA hszA
              refine wpAnyH_ready (rs := [4, 12]) (by kernel_rfl) (by simp) ?_
              refine held_cons rfl (fun K hK => ?_) (held_cons rfl (fun K hK => ?_) AllReadyH.nil)
              · go_simp
                refine hK.out _ _ hHeld (fun _ => ?_)
                clear hK K
                try simp only [Act.put, List.setIfInBounds_toArray, List.set_cons_zero, List.set_cons_succ]
                refine wpAnyH_ready (rs := [12]) (by kernel_rfl) (by simp) ?_
                refine held_cons rfl (fun K hK => ?_) AllReadyH.nil
                go_simp
                obtain ⟨hHeldA, hownA, hboxA, hszA⟩ := HA.out
                refine hK.out _ _ hHeldA (fun _ => ?_)
                clear hHeld hK K
                have hHeld := hHeldA
                clear hHeldA
                try simp only [Act.put, List.setIfInBounds_toArray, List.set_cons_zero, List.set_cons_succ]
                refine wpAnyH_ready (rs := [13]) (by kernel_rfl) (by simp) ?_
                refine held_cons rfl (fun K hK => step_app rfl _ _ 84 rfl TCds base (.slice po m co) m (condCells P.conds) rfl hownA w2.heap.size 1 1 [.int .i64 f, .int .i64 l, .int .i64 c, .bool false, .bool false, .bool false] rfl _ hboxA rfl rfl (by simp [Value.oneCell']) Nat.one_pos (by omega) (by omega) (by rw [hszA]; have := HO.out.2.2.2; omega) ?_) AllReadyH.nil
                intro g5 cap5 w5 happ
                have hold : ∀ j, j < w2.heap.size → Value.ownBlock (.slice po m co) ≠ some j → w5.heap[j]? = w2.heap[j]? := fun j hj hne => (happ.old (by rw [hszA]; omega) hne).trans (heap_alloc_old w2 _ hj)
                have hHeldB : (fun W => W.cell? ⟨bo, 0, none⟩ = some (.int .i64 f) ∧ W.cell? ⟨bo, 1, none⟩ = some (.int .i64 l) ∧ W.cell? ⟨bo, 2, none⟩ = some (.int .i64 c)) w5 := by
                  have e := hold bo HBx.out.1 HBx.out.2.1
                  exact ⟨(World.cell?_of_block (a := ⟨bo, 0, none⟩) e).trans HB3.out.1, (World.cell?_of_block (a := ⟨bo, 1, none⟩) e).trans HB3.out.2.1, (World.cell?_of_block (a := ⟨bo, 2, none⟩) e).trans HB3.out.2.2⟩
                have e3 := hold bf HO.out.2.2.1 HO.out.2.1
                have hc3 := (World.cell?_of_block (a := ⟨bf, 2, none⟩) e3).trans c2
                have hf3 := (World.frozen?_of_block (a := ⟨bf, 2, none⟩) e3).trans f2
                have H5 := Lib.hid happ
                refine hK.out _ _ hHeldB (fun _ => ?_)
                clear hHeld hK K happ hold e3
                have hHeld := hHeldB
                clear hHeldB hownA hboxA hszA
                try simp only [Act.put, List.setIfInBounds_toArray, List.set_cons_zero, List.set_cons_succ]
                refine held_take (i := 14) (v := ?_) rfl (by kernel_rfl) (by kernel_rfl) (by kernel_rfl) (fun _ _ _ h => h) (Or.inl ⟨by rfl, ?_⟩) hHeld ?_
                rotate_left
                · intro w hSw; obtain ⟨hS1, hS2, hS3⟩ := hSw; go_simp; (try with_reducible rfl)
                try simp only [Act.put, List.setIfInBounds_toArray, List.set_cons_zero, List.set_cons_succ]
                refine held_take (i := 15) (v := ?_) rfl (by kernel_rfl) (by kernel_rfl) (by kernel_rfl) (fun _ _ _ h => h) (Or.inl ⟨by rfl, ?_⟩) hHeld ?_
                rotate_left
                · intro w hSw; obtain ⟨hS1, hS2, hS3⟩ := hSw; go_simp; (try with_reducible rfl)
                try simp only [Act.put, List.setIfInBounds_toArray, List.set_cons_zero, List.set_cons_succ]
                refine wpAnyH_ready (rs := [16]) (by kernel_rfl) (by simp) ?_
                refine held_cons rfl (fun K hK => ?_) AllReadyH.nil
                go_simp
                refine hK.out _ _ ?_ (fun _ => ?_)
                · exact ⟨(World.cell?_setCell_far _ _ _ _ (fun e => HBx.out.2.2 e)).trans hHeld.1, (World.cell?_setCell_far _ _ _ _ (fun e => HBx.out.2.2 e)).trans hHeld.2.1, (World.cell?_setCell_far _ _ _ _ (fun e => HBx.out.2.2 e)).trans hHeld.2.2⟩
                clear hK K
                try simp only [Act.put, List.setIfInBounds_toArray, List.set_cons_zero, List.set_cons_succ]
                refine wpAnyH_done (by kernel_rfl) ?_ _
                clear hc3 hf3 hHeld
                go_wp2_with fail
                go_end0
                have hend := H2.out.2.2.app ⟨f, l, c, false, false, false⟩ (o := .cells #[.int .i64 f, .int .i64 l, .int .i64 c, .bool false, .bool false, .bool false] 90) HM.out.1 (by omega) H5.out
                have hfn := H2.out.1.fnew ⟨_, hend.1, rfl⟩ (by rw [HX.out.2.2.2.2.2.2.1]; exact hend.2)
                exact ⟨F, _, rfl, by rw [HRc.out false false (by (rw [HAV.out, HK.out, HKb.out, HW1.out]; rfl)) HAV.out]; exact hfn.1, (Upd.below H2.out.2.1).trans hfn.2⟩
              · go_simp
                obtain ⟨hHeldA, hownA, hboxA, hszA⟩ := HA.out
                refine hK.out _ _ hHeldA (fun _ => ?_)
                clear hHeld hK K
                have hHeld := hHeldA
                clear hHeldA
                try simp only [Act.put, List.setIfInBounds_toArray, List.set_cons_zero, List.set_cons_succ]
                have c2A : (w2.alloc (.cells #[.int .i64 f, .int .i64 l, .int .i64 c, .bool false, .bool false, .bool false] 90)).drew.cell? ⟨bf, 2, none⟩ = some (.slice po m co) := ((Below.new w2 _).drew.cell (p := ⟨bf, 2, none⟩) HO.out.2.2.1).trans c2
                refine wpAnyH_ready (rs := [4]) (by kernel_rfl) (by simp) ?_
                refine held_cons rfl (fun K hK => ?_) AllReadyH.nil
                go_simp
                refine hK.out _ _ hHeld (fun _ => ?_)
                clear hK K c2A
                try simp only [Act.put, List.setIfInBounds_toArray, List.set_cons_zero, List.set_cons_succ]
                refine wpAnyH_ready (rs := [13]) (by kernel_rfl) (by simp) ?_
                refine held_cons rfl (fun K hK => step_app rfl _ _ 84 rfl TCds base (.slice po m co) m (condCells P.conds) rfl hownA w2.heap.size 1 1 [.int .i64 f, .int .i64 l, .int .i64 c, .bool false, .bool false, .bool false] rfl _ hboxA rfl rfl (by simp [Value.oneCell']) Nat.one_pos (by omega) (by omega) (by rw [hszA]; have := HO.out.2.2.2; omega) ?_) AllReadyH.nil
                intro g5 cap5 w5 happ
                have hold : ∀ j, j < w2.heap.size → Value.ownBlock (.slice po m co) ≠ some j → w5.heap[j]? = w2.heap[j]? := fun j hj hne => (happ.old (by rw [hszA]; omega) hne).trans (heap_alloc_old w2 _ hj)
                have hHeldB : (fun W => W.cell? ⟨bo, 0, none⟩ = some (.int .i64 f) ∧ W.cell? ⟨bo, 1, none⟩ = some (.int .i64 l) ∧ W.cell? ⟨bo, 2, none⟩ = some (.int .i64 c)) w5 := by
                  have e := hold bo HBx.out.1 HBx.out.2.1
                  exact ⟨(World.cell?_of_block (a := ⟨bo, 0, none⟩) e).trans HB3.out.1, (World.cell?_of_block (a := ⟨bo, 1, none⟩) e).trans HB3.out.2.1, (World.cell?_of_block (a := ⟨bo, 2, none⟩) e).trans HB3.out.2.2⟩
                have e3 := hold bf HO.out.2.2.1 HO.out.2.1
                have hc3 := (World.cell?_of_block (a := ⟨bf, 2, none⟩) e3).trans c2
                have hf3 := (World.frozen?_of_block (a := ⟨bf, 2, none⟩) e3).trans f2
                have H5 := Lib.hid happ
                refine hK.out _ _ hHeldB (fun _ => ?_)
                clear hHeld hK K happ hold e3
                have hHeld := hHeldB
                clear hHeldB hownA hboxA hszA
                try simp only [Act.put, List.setIfInBounds_toArray, List.set_cons_zero, List.set_cons_succ]
                refine held_take (i := 14) (v := ?_) rfl (by kernel_rfl) (by kernel_rfl) (by kernel_rfl) (fun _ _ _ h => h) (Or.inl ⟨by rfl, ?_⟩) hHeld ?_
                rotate_left
                · intro w hSw; obtain ⟨hS1, hS2, hS3⟩ := hSw; go_simp; (try with_reducible rfl)
                try simp only [Act.put, List.setIfInBounds_toArray, List.set_cons_zero, List.set_cons_succ]
                refine held_take (i := 15) (v := ?_) rfl (by kernel_rfl) (by kernel_rfl) (by kernel_rfl) (fun _ _ _ h => h) (Or.inl ⟨by rfl, ?_⟩) hHeld ?_
                rotate_left
                · intro w hSw; obtain ⟨hS1, hS2, hS3⟩ := hSw; go_simp; (try with_reducible rfl)
                try simp only [Act.put, List.setIfInBounds_toArray, List.set_cons_zero, List.set_cons_succ]
                refine wpAnyH_ready (rs := [16]) (by kernel_rfl) (by simp) ?_
                refine held_cons rfl (fun K hK => ?_) AllReadyH.nil
                go_simp
                refine hK.out _ _ ?_ (fun _ => ?_)
                · exact ⟨(World.cell?_setCell_far _ _ _ _ (fun e => HBx.out.2.2 e)).trans hHeld.1, (World.cell?_setCell_far _ _ _ _ (fun e => HBx.out.2.2 e)).trans hHeld.2.1, (World.cell?_setCell_far _ _ _ _ (fun e => HBx.out.2.2 e)).trans hHeld.2.2⟩
                clear hK K
                try simp only [Act.put, List.setIfInBounds_toArray, List.set_cons_zero, List.set_cons_succ]
                refine wpAnyH_done (by kernel_rfl) ?_ _
                clear hc3 hf3 hHeld
                go_wp2_with fail
                go_end0
                have hend := H2.out.2.2.app ⟨f, l, c, false, false, false⟩ (o := .cells #[.int .i64 f, .int .i64 l, .int .i64 c, .bool false, .bool false, .bool false] 90) HM.out.1 (by omega) H5.out
                have hfn := H2.out.1.fnew ⟨_, hend.1, rfl⟩ (by rw [HX.out.2.2.2.2.2.2.1]; exact hend.2)
                exact ⟨F, _, rfl, by rw [HRc.out false false (by (rw [HAV.out, HK.out, HKb.out, HW1.out]; rfl)) HAV.out]; exact hfn.1, (Upd.below H2.out.2.1).trans hfn.2⟩
            · refine held_take (i := 8) (v := ?_) rfl (by kernel_rfl) (by kernel_rfl) (by kernel_rfl) (fun _ _ _ h => h) (Or.inl ⟨by rfl, ?_⟩) hHeld ?_
              rotate_left
              · intro w hSw; obtain ⟨hS1, hS2, hS3⟩ := hSw; go_simp; (try with_reducible rfl)
              try simp only [Act.put, List.setIfInBounds_toArray, List.set_cons_zero, List.set_cons_succ]
              refine held_take (i := 9) (v := ?_) rfl (by kernel_rfl) (by kernel_rfl) (by kernel_rfl) (fun _ _ _ h => h) (Or.inl ⟨by rfl, ?_⟩) hHeld ?_
              rotate_left
              · intro w hSw; obtain ⟨hS1, hS2, hS3⟩ := hSw; go_simp; (try with_reducible rfl)
              try simp only [Act.put, List.setIfInBounds_toArray, List.set_cons_zero, List.set_cons_succ]
              refine held_take (i := 10) (v := ?_) rfl (by kernel_rfl) (by kernel_rfl) (by kernel_rfl) (fun _ _ _ h => h) (Or.inl ⟨by rfl, ?_⟩) hHeld ?_
              rotate_left
              · intro w hSw; obtain ⟨hS1, hS2, hS3⟩ := hSw; go_simp; (try with_reducible rfl)
              try simp only [Act.put, List.setIfInBounds_toArray, List.set_cons_zero, List.set_cons_succ]
              refine held_take (i := 11) (v := ?_) rfl (by kernel_rfl) (by kernel_rfl) (by kernel_rfl) (fun _ _ _ h => h) (Or.inl ⟨by rfl, ?_⟩) hHeld ?_
              rotate_left
              · intro w hSw; obtain ⟨hS1, hS2, hS3⟩ := hSw; go_simp; (try with_reducible rfl)
              try simp only [Act.put, List.setIfInBounds_toArray, List.set_cons_zero, List.set_cons_succ]
              have hHeldA : (fun W => W.cell? ⟨bo, 0, none⟩ = some (.int .i64 f) ∧ W.cell? ⟨bo, 1, none⟩ = some (.int .i64 l) ∧ W.cell? ⟨bo, 2, none⟩ = some (.int .i64 c)) (w2.alloc (.cells #[.int .i64 f, .int .i64 l, .int .i64 c, .bool false, .bool true, .bool false] 90)).drew := by
                have hbA := (Below.new w2 (.cells #[.int .i64 f, .int .i64 l, .int .i64 c, .bool false, .bool true, .bool false] 90)).drew
                exact ⟨(hbA.cell (p := ⟨bo, 0, none⟩) HBx.out.1).trans hHeld.1, (hbA.cell (p := ⟨bo, 1, none⟩) HBx.out.1).trans hHeld.2.1, (hbA.cell (p := ⟨bo, 2, none⟩) HBx.out.1).trans hHeld.2.2⟩
              have HB3 := Lib.hid hHeld
              have hownA : (w2.alloc (.cells #[.int .i64 f, .int .i64 l, .int .i64 c, .bool false, .bool true, .bool false] 90)).drew.ownsRow base 90 6 (.slice po m co) m (condCells P.conds) := HO.out.1.alloc _
              have hboxA : (w2.alloc (.cells #[.int .i64 f, .int .i64 l, .int .i64 c, .bool false, .bool true, .bool false] 90)).drew.heap[w2.heap.size]? = _ := heap_alloc_new w2 _
              have hszA : (w2.alloc (.cells #[.int .i64 f, .int .i64 l, .int .i64 c, .bool false, .bool true, .bool false] 90)).drew.heap.size = w2.heap.size + 1 := World.size_alloc _ _
              have HA := Lib.hid (And.intro hHeldA (And.intro hownA (And.intro hboxA hszA)))
              clear hHeldA hownA hboxA hszA
              refine wpAnyH_ready (rs := [4, 12]) (by kernel_rfl) (by simp) ?_
              refine held_cons rfl (fun K hK => ?_) (held_cons rfl (fun K hK => ?_) AllReadyH.nil)
              · go_simp
                refine hK.out _ _ hHeld (fun _ => ?_)
                clear hK K
                try simp only [Act.put, List.setIfInBounds_toArray, List.set_cons_zero, List.set_cons_succ]
                refine wpAnyH_ready (rs := [12]) (by kernel_rfl) (by simp) ?_
                refine held_cons rfl (fun K hK => ?_) AllReadyH.nil
                go_simp
                obtain ⟨hHeldA, hownA, hboxA, hszA⟩ := HA.out
                refine hK.out _ _ hHeldA (fun _ => ?_)
                clear hHeld hK K
                have hHeld := hHeldA
                clear hHeldA
                try simp only [Act.put, List.setIfInBounds_toArray, List.set_cons_zero, List.set_cons_succ]
                refine wpAnyH_ready (rs := [13]) (by kernel_rfl) (by simp) ?_
                refine held_cons rfl (fun K hK => step_app rfl _ _ 84 rfl TCds base (.slice po m co) m (condCells P.conds) rfl hownA w2.heap.size 1 1 [.int .i64 f, .int .i64 l, .int .i64 c, .bool false, .bool true, .bool false] rfl _ hboxA rfl rfl (by simp [Value.oneCell']) Nat.one_pos (by omega) (by omega) (by rw [hszA]; have := HO.out.2.2.2; omega) ?_) AllReadyH.nil
                intro g5 cap5 w5 happ
                have hold : ∀ j, j < w2.heap.size → Value.ownBlock (.slice po m co) ≠ some j → w5.heap[j]? = w2.heap[j]? := fun j hj hne => (happ.old (by rw [hszA]; omega) hne).trans (heap_alloc_old w2 _ hj)
                have hHeldB : (fun W => W.cell? ⟨bo, 0, none⟩ = some (.int .i64 f) ∧ W.cell? ⟨bo, 1, none⟩ = some (.int .i64 l) ∧ W.cell? ⟨bo, 2, none⟩ = some (.int .i64 c)) w5 := by
                  have e := hold bo HBx.out.1 HBx.out.2.1
                  exact ⟨(World.cell?_of_block (a := ⟨bo, 0, none⟩) e).trans HB3.out.1, (World.cell?_of_block (a := ⟨bo, 1, none⟩) e).trans HB3.out.2.1, (World.cell?_of_block (a := ⟨bo, 2, none⟩) e).trans HB3.out.2.2⟩
                have e3 := hold bf HO.out.2.2.1 HO.out.2.1
                have hc3 := (World.cell?_of_block (a := ⟨bf, 2, none⟩) e3).trans c2
                have hf3 := (World.frozen?_of_block (a := ⟨bf, 2, none⟩) e3).trans f2
                have H5 := Lib.hid happ
                refine hK.out _ _ hHeldB (fun _ => ?_)
                clear hHeld hK K happ hold e3
                have hHeld := hHeldB
                clear hHeldB hownA hboxA hszA
                try simp only [Act.put, List.setIfInBounds_toArray, List.set_cons_zero, List.set_cons_succ]
                refine held_take (i := 14) (v := ?_) rfl (by kernel_rfl) (by kernel_rfl) (by kernel_rfl) (fun _ _ _ h => h) (Or.inl ⟨by rfl, ?_⟩) hHeld ?_
                rotate_left
                · intro w hSw; obtain ⟨hS1, hS2, hS3⟩ := hSw; go_simp; (try with_reducible rfl)
                try simp only [Act.put, List.setIfInBounds_toArray, List.set_cons_zero, List.set_cons_succ]
                refine held_take (i := 15) (v := ?_) rfl (by kernel_rfl) (by kernel_rfl) (by kernel_rfl) (fun _ _ _ h => h) (Or.inl ⟨by rfl, ?_⟩) hHeld ?_
                rotate_left
                · intro w hSw; obtain ⟨hS1, hS2, hS3⟩ := hSw; go_simp; (try with_reducible rfl)
                try simp only [Act.put, List.setIfInBounds_toArray, List.set_cons_zero, List.set_cons_succ]
                refine wpAnyH_ready (rs := [16]) (by kernel_rfl) (by simp) ?_
                refine held_cons rfl (fun K hK => ?_) AllReadyH.nil
                go_simp
                refine hK.out _ _ ?_ (fun _ => ?_)
                · exact ⟨(World.cell?_setCell_far _ _ _ _ (fun e => HBx.out.2.2 e)).trans hHeld.1, (World.cell?_setCell_far _ _ _ _ (fun e => HBx.out.2.2 e)).trans hHeld.2.1, (World.cell?_setCell_far _ _ _ _ (fun e => HBx.out.2.2 e)).trans hHeld.2.2⟩
                clear hK K
                try simp only [Act.put, List.setIfInBounds_toArray, List.set_cons_zero, List.set_cons_succ]
                refine wpAnyH_done (by kernel_rfl) ?_ _
                clear hc3 hf3 hHeld
                go_wp2_with fail
                go_end0
                have hend := H2.out.2.2.app ⟨f, l, c, false, true, false⟩ (o := .cells #[.int .i64 f, .int .i64 l, .int .i64 c, .bool false, .bool true, .bool false] 90) HM.out.1 (by omega) H5.out
                have hfn := H2.out.1.fnew ⟨_, hend.1, rfl⟩ (by rw [HX.out.2.2.2.2.2.2.1]; exact hend.2)
                exact ⟨F, _, rfl, by rw [HRc.out false true (by (rw [HAV.out, HK.out, HKb.out, HW1.out]; rfl)) HAV.out]; exact hfn.1, (Upd.below H2.out.2.1).trans hfn.2⟩
              · go_simp
                obtain ⟨hHeldA, hownA, hboxA, hszA⟩ := HA.out
                refine hK.out _ _ hHeldA (fun _ => ?_)
                clear hHeld hK K
                have hHeld := hHeldA
                clear hHeldA
                try simp only [Act.put, List.setIfInBounds_toArray, List.set_cons_zero, List.set_cons_succ]
                have c2A : (w2.alloc (.cells #[.int .i64 f, .int .i64 l, .int .i64 c, .bool false, .bool true, .bool false] 90)).drew.cell? ⟨bf, 2, none⟩ = some (.slice po m co) := ((Below.new w2 _).drew.cell (p := ⟨bf, 2, none⟩) HO.out.2.2.1).trans c2
                refine wpAnyH_ready (rs := [4]) (by kernel_rfl) (by simp) ?_
                refine held_cons rfl (fun K hK => ?_) AllReadyH.nil
                go_simp
                refine hK.out _ _ hHeld (fun _ => ?_)
                clear hK K c2A
                try simp only [Act.put, List.setIfInBounds_toArray, List.set_cons_zero, List.set_cons_succ]
                refine wpAnyH_ready (rs := [13]) (by kernel_rfl) (by simp) ?_
                refine held_cons rfl (fun K hK => step_app rfl _ _ 84 rfl TCds base (.slice po m co) m (condCells P.conds) rfl hownA w2.heap.size 1 1 [.int .i64 f, .int .i64 l, .int .i64 c, .bool false, .bool true, .bool false] rfl _ hboxA rfl rfl (by simp [Value.oneCell']) Nat.one_pos (by omega) (by omega) (by rw [hszA]; have := HO.out.2.2.2; omega) ?_) AllReadyH.nil
                intro g5 cap5 w5 happ
                have hold : ∀ j, j < w2.heap.size → Value.ownBlock (.slice po m co) ≠ some j → w5.heap[j]? = w2.heap[j]? := fun j hj hne => (happ.old (by rw [hszA]; omega) hne).trans (heap_alloc_old w2 _ hj)
                have hHeldB : (fun W => W.cell? ⟨bo, 0, none⟩ = some (.int .i64 f) ∧ W.cell? ⟨bo, 1, none⟩ = some (.int .i64 l) ∧ W.cell? ⟨bo, 2, none⟩ = some (.int .i64 c)) w5 := by
                  have e := hold bo HBx.out.1 HBx.out.2.1
                  exact ⟨(World.cell?_of_block (a := ⟨bo, 0, none⟩) e).trans HB3.out.1, (World.cell?_of_block (a := ⟨bo, 1, none⟩) e).trans HB3.out.2.1, (World.cell?_of_block (a := ⟨bo, 2, none⟩) e).trans HB3.out.2.2⟩
                have e3 := hold bf HO.out.2.2.1 HO.out.2.1
                have hc3 := (World.cell?_of_block (a := ⟨bf, 2, none⟩) e3).trans c2
                have hf3 := (World.frozen?_of_block (a := ⟨bf, 2, none⟩) e3).trans f2
                have H5 := Lib.hid happ
                refine hK.out _ _ hHeldB (fun _ => ?_)
                clear hHeld hK K happ hold e3
                have hHeld := hHeldB
                clear hHeldB hownA hboxA hszA
                try simp only [Act.put, List.setIfInBounds_toArray, List.set_cons_zero, List.set_cons_succ]
                refine held_take (i := 14) (v := ?_) rfl (by kernel_rfl) (by kernel_rfl) (by kernel_rfl) (fun _ _ _ h => h) (Or.inl ⟨by rfl, ?_⟩) hHeld ?_
                rotate_left
                · intro w hSw; obtain ⟨hS1, hS2, hS3⟩ := hSw; go_simp; (try with_reducible rfl)
                try simp only [Act.put, List.setIfInBounds_toArray, List.set_cons_zero, List.set_cons_succ]
                refine held_take (i := 15) (v := ?_) rfl (by kernel_rfl) (by kernel_rfl) (by kernel_rfl) (fun _ _ _ h => h) (Or.inl ⟨by rfl, ?_⟩) hHeld ?_
                rotate_left
                · intro w hSw; obtain ⟨hS1, hS2, hS3⟩ := hSw; go_simp; (try with_reducible rfl)
                try simp only [Act.put, List.setIfInBounds_toArray, List.set_cons_zero, List.set_cons_succ]
                refine wpAnyH_ready (rs := [16]) (by kernel_rfl) (by simp) ?_
                refine held_cons rfl (fun K hK => ?_) AllReadyH.nil
                go_simp
                refine hK.out _ _ ?_ (fun _ => ?_)
                · exact ⟨(World.cell?_setCell_far _ _ _ _ (fun e => HBx.out.2.2 e)).trans hHeld.1, (World.cell?_setCell_far _ _ _ _ (fun e => HBx.out.2.2 e)).trans hHeld.2.1, (World.cell?_setCell_far _ _ _ _ (fun e => HBx.out.2.2 e)).trans hHeld.2.2⟩
                clear hK K
                try simp only [Act.put, List.setIfInBounds_toArray, List.set_cons_zero, List.set_cons_succ]
                refine wpAnyH_done (by kernel_rfl) ?_ _
                clear hc3 hf3 hHeld
                go_wp2_with fail
                go_end0
                have hend := H2.out.2.2.app ⟨f, l, c, false, true, false⟩ (o := .cells #[.int .i64 f, .int .i64 l, .int .i64 c, .bool false, .bool true, .bool false] 90) HM.out.1 (by omega) H5.out
                have hfn := H2.out.1.fnew ⟨_, hend.1, rfl⟩ (by rw [HX.out.2.2.2.2.2.2.1]; exact hend.2)
                exact ⟨F, _, rfl, by rw [HRc.out false true (by (rw [HAV.out, HK.out, HKb.out, HW1.out]; rfl)) HAV.out]; exact hfn.1, (Upd.below H2.out.2.1).trans hfn.2⟩
      · rw [decide_eq_false hnm] at hcmp
        rw [if_pos (.inr (.inr hnm))] at HR1
        have HR := Lib.hid HR1.symm
        rcases hw12 with hw | hw
        · rw [decide_eq_true hw] at hq1
          clear HR1 hw hrn hap hnm
          go_enter Tryz.func66, Tryz.ntmps66
          go_wp2_with fail
          refine (HNm.out _).mono ?_; rintro e wn ⟨rfl, rfl⟩
          go_upto_region 9 with fail
          refine wp_region_still_tail 5 (by kernel_rfl) (by kernel_rfl) ?_
          simp only [List.take_succ_cons, List.take_zero, List.drop_succ_cons, List.drop_zero]
          change wpStill _ _ W.drew (fun a' => wpList _ _ _ _ a' W.drew) _ _
          have a0' : W.drew.cell? ⟨bf, 0, none⟩ = _ := a0
          have e0' : W.drew.cell? ⟨bo, 0, none⟩ = _ := e0
          have e1' : W.drew.cell? ⟨bo, 1, none⟩ = _ := e1
          have e2' : W.drew.cell? ⟨bo, 2, none⟩ = _ := e2
          have H10 : Hid (HasXF base bx bf tv F G W.drew S P ∧ Upd (fun g => F g ∨ G g) (fun g => F g ∨ G g) w W.drew) := Lib.hid ⟨HX.out.1.below (Below.refl _ _).drew, (Upd.below HX.out.2.1).trans (Upd.below (w := W) (Below.refl _ _).drew)⟩
          clear a0 a2 e0 e1 e2 hWW hbo
          generalize W.drew = W4 at *
          repeat still_step
          try refine wpStill_nil ?_
          go_wp2_with fail
          refine (fail_any H10.out.1.x f l c 5).mono ?_; rintro e w5 ⟨F5, rfl, hx5, hu5⟩
          have H5 := Lib.hid (And.intro (H10.out.1.xon hx5 hu5) (hu5.wide G))
          clear hx5 hu5
          go_wp2_with fail
          go_end0
          exact ⟨F5, G, rfl, by rw [HR.out]; exact H5.out.1, H10.out.2.trans H5.out.2⟩
        · rw [decide_eq_true hw] at hq2
          have hw1 : ¬ word = wIfdef := by rw [hw]; decide
          rw [decide_eq_false hw1] at hq1
          clear HR1 hw hw1 hrn hap hnm
          go_enter Tryz.func66, Tryz.ntmps66
          go_wp2_with fail
          refine (HNm.out _).mono ?_; rintro e wn ⟨rfl, rfl⟩
          go_upto_region 9 with fail
          refine wp_region_still_tail 5 (by kernel_rfl) (by kernel_rfl) ?_
          simp only [List.take_succ_cons, List.take_zero, List.drop_succ_cons, List.drop_zero]
          change wpStill _ _ W.drew (fun a' => wpList _ _ _ _ a' W.drew) _ _
          have a0' : W.drew.cell? ⟨bf, 0, none⟩ = _ := a0
          have e0' : W.drew.cell? ⟨bo, 0, none⟩ = _ := e0
          have e1' : W.drew.cell? ⟨bo, 1, none⟩ = _ := e1
          have e2' : W.drew.cell? ⟨bo, 2, none⟩ = _ := e2
          have H10 : Hid (HasXF base bx bf tv F G W.drew S P ∧ Upd (fun g => F g ∨ G g) (fun g => F g ∨ G g) w W.drew) := Lib.hid ⟨HX.out.1.below (Below.refl _ _).drew, (Upd.below HX.out.2.1).trans (Upd.below (w := W) (Below.refl _ _).drew)⟩
          clear a0 a2 e0 e1 e2 hWW hbo
          generalize W.drew = W4 at *
          repeat still_step
          try refine wpStill_nil ?_
          go_wp2_with fail
          refine (fail_any H10.out.1.x f l c 5).mono ?_; rintro e w5 ⟨F5, rfl, hx5, hu5⟩
          have H5 := Lib.hid (And.intro (H10.out.1.xon hx5 hu5) (hu5.wide G))
          clear hx5 hu5
          go_wp2_with fail
          go_end0
          exact ⟨F5, G, rfl, by rw [HR.out]; exact H5.out.1, H10.out.2.trans H5.out.2⟩
theorem cond_any {w : World} {base bx bf : Nat} {tv : Value} {F G : Nat → Prop} {S : Xs} {P : Fs} (h : HasXF base bx bf tv F G w S P) (hb : base ≤ w.heap.size) (word rest : Bs) (f l c : Int) (apart : Bool)
    (hword : word = wIfdef ∨ word = wIfndef ∨ word = wElse ∨ word = wEndif) (hrest : rest.length ≤ 1000000) (hcl : P.conds.length ≤ 90000) :
    Calls Tryz.prog 66 #[.pointer (some ⟨bf, 0, none⟩), .string (bstr word), .string (bstr rest), .agg #[.int .i64 f, .int .i64 l, .int .i64 c], .bool apart] w (FR base bx bf tv F G w (condP S P word rest f l c apart).1 (condP S P word rest f l c apart).2 (.tuple #[])) := by
  by_cases hw12 : word = wIfdef ∨ word = wIfndef
  · exact cond_if h hb word rest f l c apart hword hrest hcl hw12
  · exact cond_else h hb word rest f l c apart hword hrest hcl hw12
end Go.Proofs.YtcjfelndnnhgjaaGreatDoor
