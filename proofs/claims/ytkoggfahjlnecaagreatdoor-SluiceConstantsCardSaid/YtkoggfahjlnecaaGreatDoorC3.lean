import Derived.Test.YtkoggfahjlnecaaGreatDoorC2
namespace Go.Proofs.YtkoggfahjlnecaaGreatDoor
set_option linter.unusedVariables false
open Go.RowKit Go.Sort

/-! # SluiceConstants: plain -/
theorem plainN_le (picks : List Int) (at_ : Nat) : plainN picks at_ ≤ 1048576 := by
  unfold plainN; split <;> omega
theorem plainK_leaf {picks : List Int} {at_ d : Nat} (h : d = 0 ∨ plainN picks at_ % 3 = 0) : plainK picks at_ (d + 1) = (.num (plainN picks at_ % 200), at_ + 1) := by
  rw [plainK]; exact if_pos h
theorem plainK_bin {picks : List Int} {at_ d : Nat} (h : ¬ (d = 0 ∨ plainN picks at_ % 3 = 0)) : plainK picks at_ (d + 1) = (.bin (plainN picks at_ % 7) (plainK picks (at_ + 1) d).1 (plainK picks (plainK picks (at_ + 1) d).2 d).1, (plainK picks (plainK picks (at_ + 1) d).2 d).2) := by
  rw [plainK]; exact if_neg h
theorem plainK_le (picks : List Int) : ∀ deep at_, (plainK picks at_ deep).2 + 1 ≤ at_ + 2 ^ (deep + 1)
  | 0, at_ => by unfold plainK; simp
  | d + 1, at_ => by
    have h0 := Nat.two_pow_pos d
    have h3 : 2 ^ (d + 1 + 1) = 2 ^ (d + 1) + 2 ^ (d + 1) := by rw [Nat.pow_succ]; omega
    have h4 : 2 ^ (d + 1) = 2 ^ d + 2 ^ d := by rw [Nat.pow_succ]; omega
    by_cases h : d = 0 ∨ plainN picks at_ % 3 = 0
    · rw [plainK_leaf h]; dsimp only; omega
    · rw [plainK_bin h]
      have h1 := plainK_le picks d (at_ + 1)
      have h2 := plainK_le picks d (plainK picks (at_ + 1) d).2
      dsimp only
      omega
theorem plainK_wf (picks : List Int) : ∀ deep at_, (plainK picks at_ deep).1.wf
  | 0, at_ => Nat.mod_lt _ (by decide)
  | d + 1, at_ => by
    by_cases h : d = 0 ∨ plainN picks at_ % 3 = 0
    · rw [plainK_leaf h]; exact Nat.mod_lt _ (by decide)
    · rw [plainK_bin h]; exact ⟨Nat.mod_lt _ (by decide), plainK_wf picks d _, plainK_wf picks d _⟩
def PlainR (w : World) (r : KE × Nat) (e : Ending) (w' : World) : Prop := ∃ cs, e = .returned (.tuple #[.agg cs.toArray, .int .i64 (r.2 : Nat)]) ∧ EX (fun k => w.heap.size ≤ k) w' r.1 cs ∧ Below w.heap.size w w'
def PlainC (picks : List Int) (N : Nat) (p : Option Addr) (c d : Nat) : Prop := ∀ (at_ : Nat) (w : World), at_ + 2 ^ (d + 1) ≤ 1000 → Tab w → RO w (.slice p N c) 1 N (ints picks) → Calls Tryz.prog 4 #[.slice p N c, .int .i64 at_, .int .i64 d] w (PlainR w (plainK picks at_ d))
set_option maxRecDepth 100000 in
set_option maxHeartbeats 4000000 in
theorem plain_step {picks : List Int} {N : Nat} {p : Option Addr} {c d dd : Nat} (hdd : dd = d + 1) (hd : d ≤ 3) (hl : picks.length = N) (ih : d = 0 ∨ PlainC picks N p c d) : PlainC picks N p c dd := by
  intro a w ha ht hr
  have hpw : 2 ^ (d + 1) ≥ 1 := Nat.two_pow_pos _
  have hpw2 : 2 ^ (dd + 1) = 2 ^ (d + 1) + 2 ^ (d + 1) := by rw [hdd, Nat.pow_succ 2 (d + 1)]; omega
  have haw : IntKind.i64.wrap ((a : Int) + 1) = ((a + 1 : Nat) : Int) := by rw [i64_of (by omega)]; rfl
  have hdw : IntKind.i64.wrap ((dd : Int) - 1) = (d : Int) := by rw [i64_of (by omega)]; omega
  obtain ⟨n, hn⟩ : ∃ n, plainN picks a = n := ⟨_, rfl⟩
  have hn1 : n ≤ 1048576 := hn ▸ plainN_le picks a
  have H := Lib.hid (And.intro ha (And.intro hr (And.intro hl (And.intro hn (And.intro hdd (And.intro hd (And.intro ht (And.intro ih hpw2))))))))
  have hpick : a < N → ∃ v : Int, (ints picks)[a]? = some (.int .i64 v) ∧ max 0 (min v 1048576) = (n : Int) := fun hlt => by
    have hp : picks[a]? = some picks[a] := List.getElem?_eq_getElem (by omega)
    refine ⟨picks[a], by unfold ints; rw [List.getElem?_map, hp]; rfl, ?_⟩
    unfold plainN at hn
    rw [hp] at hn
    dsimp only at hn
    omega
  have hno : ¬ a < N → n = 0 := fun hge => by
    unfold plainN at hn
    rw [List.getElem?_eq_none (by omega)] at hn
    exact hn.symm
  have HP := Lib.hid (And.intro hpick hno)
  clear hpick hno ha hr hl hn hdd hd ht ih hpw hpw2
  go_enter Tryz.func4, Tryz.ntmps4
  go_upto_if 16 with fail
  go_cut [8] from 13 to 23 (fun v wz => v = .int .i64 (n : Nat) ∧ wz = w.alloc (.cells z6.toArray 27))
  case first =>
    by_cases hlt : a < N
    · obtain ⟨v, hv, hvn⟩ := HP.out.1 hlt
      obtain ⟨b, o, rfl⟩ := H.out.2.1.sl hv
      have cv := H.out.2.1.cell hv
      have cv' : (w.alloc (.cells z6.toArray 27)).cell? _ = some _ := ((Below.new w (.cells z6.toArray 27)).cell (World.block_lt_of_cell? _ _ cv)).trans cv
      have h1 : (a : Int) < (N : Int) := by omega
      have h2 : (0 : Int) ≤ (a : Int) := by omega
      clear cv hlt
      go_wp2_with fail
      go_meet
      exact ⟨rfl, rfl⟩
    · have h0 := HP.out.2 hlt
      subst h0
      have h1 : ¬ (a : Int) < (N : Int) := by omega
      clear hlt
      go_wp2_with fail
      go_meet
      exact ⟨rfl, rfl⟩
  case rest =>
    obtain ⟨rfl, rfl⟩ := hcut
    have hw3 : (n : Int).tmod 3 = ((n % 3 : Nat) : Int) := by rw [Int.tmod_eq_emod_of_nonneg (by omega)]; omega
    have ht2 : (n : Int).tmod 200 = ((n % 200 : Nat) : Int) := by rw [Int.tmod_eq_emod_of_nonneg (by omega)]; omega
    have ht7 : (n : Int).tmod 7 = ((n % 7 : Nat) : Int) := by rw [Int.tmod_eq_emod_of_nonneg (by omega)]; omega
    have hm2 : n % 200 < 200 := Nat.mod_lt _ (by decide)
    have hm7 : n % 7 < 7 := Nat.mod_lt _ (by decide)
    obtain ⟨m2, he2⟩ : ∃ m, n % 200 = m := ⟨_, rfl⟩
    obtain ⟨m7, he7⟩ : ∃ m, n % 7 = m := ⟨_, rfl⟩
    obtain ⟨m3, he3⟩ : ∃ m, n % 3 = m := ⟨_, rfl⟩
    rw [he2] at ht2 hm2
    rw [he7] at ht7 hm7
    rw [he3] at hw3
    have wm2 : IntKind.i64.wrap (m2 : Int) = (m2 : Int) := i64_of (by omega)
    have wm7 : IntKind.i64.wrap (m7 : Int) = (m7 : Int) := i64_of (by omega)
    have wm3 : IntKind.i64.wrap (m3 : Int) = (m3 : Int) := i64_of (by omega)
    have hn0 := Below.new w (.cells z6.toArray 27)
    have HB := Lib.hid (And.intro hn0 (And.intro (Blk.new (w := w) 27 z6) (tab_below H.out.2.2.2.2.2.2.1 hn0)))
    clear hn0
    have HE := Lib.hid (And.intro he2 (And.intro he7 (And.intro he3 (And.intro hm2 hm7))))
    generalize hb0 : w.heap.size = b0 at *
    change Hid (Below _ _ (w.alloc (.cells z6.toArray 27)) ∧ _) at HB
    generalize (w.alloc (.cells z6.toArray 27)) = w1 at *
    clear he2 he7 he3 hn1 hm2
    have hb0s := Lib.hid hb0
    clear hb0
    by_cases hd0 : d = 0
    · have hle : (dd : Int) ≤ 1 := by have := H.out.2.2.2.2.1; omega
      have hkl : plainK picks a dd = (.num m2, a + 1) := by
        have h := plainK_leaf (picks := picks) (at_ := a) (d := d) (Or.inl hd0)
        rw [H.out.2.2.2.1, HE.out.1] at h
        rw [H.out.2.2.2.2.1]; exact h
      have HL := Lib.hid hkl
      clear hkl hd0 ht7 hw3
      have hc := kvalue_any m2 HE.out.2.2.2.1 (w := w1) HB.out.2.2
      have HC := Lib.hid hc
      clear hc
      go_wp2_with fail
      refine HC.out.mono ?_; rintro e w2 ⟨rfl, hb2⟩
      have hk := HB.out.2.1.next hb2
      have HK := Lib.hid (And.intro hk (And.intro (Below.trans HB.out.1 (hb2.mono (Nat.le_of_lt HB.out.2.1.lt))) True.intro))
      have r0 := hk.cell (i := 0) rfl
      have r1 := hk.cell (i := 1) rfl
      have r2 := hk.cell (i := 2) rfl
      have r3 := hk.cell (i := 3) rfl
      have r4 := hk.cell (i := 4) rfl
      have r5 := hk.cell (i := 5) rfl
      have f0 := hk.frz 0
      have f1 := hk.frz 1
      have f2 := hk.frz 2
      have f3 := hk.frz 3
      have f4 := hk.frz 4
      have f5 := hk.frz 5
      clear hk hb2 HC
      go_wp2_with fail
      have hf := blk6 HK.out.1 (.int .i64 1) (.int .i64 0) (.int .i64 0) (.int .i64 0) (.string (dec m2)) (.slice none 0 0)
      have hbf := below6 HK.out.2.1 (Nat.le_refl _) (.int .i64 1) (.int .i64 0) (.int .i64 0) (.int .i64 0) (.string (dec m2)) (.slice none 0 0)
      clear r0 r1 r2 r3 r4 r5 f0 f1 f2 f3 f4 f5
      generalize ((((((w2.setCell ⟨b0, 0, none⟩ (.int .i64 1)).setCell ⟨b0, 1, none⟩ (.int .i64 0)).setCell ⟨b0, 2, none⟩ (.int .i64 0)).setCell ⟨b0, 3, none⟩ (.int .i64 0)).setCell ⟨b0, 4, none⟩ (.string (dec m2))).setCell ⟨b0, 5, none⟩ (.slice none 0 0)) = w9 at *
      have e0 := hf.cell (i := 0) rfl
      have e1 := hf.cell (i := 1) rfl
      have e2 := hf.cell (i := 2) rfl
      have e3 := hf.cell (i := 3) rfl
      have e4 := hf.cell (i := 4) rfl
      have e5 := hf.cell (i := 5) rfl
      exact bodyPost_ret (v := .tuple #[.agg #[.int .i64 1, .int .i64 0, .int .i64 0, .int .i64 0, .string (dec m2), .slice none 0 0], .int .i64 ((a + 1 : Nat) : Int)]) (by simp [results, Tryz.results4, go_sem, e0, e1, e2, e3, e4, e5]) rfl ⟨[.int .i64 1, .int .i64 0, .int .i64 0, .int .i64 0, .string (dec m2), .slice none 0 0], by rw [HL.out], by rw [HL.out]; exact rfl, by rw [hb0s.out]; exact hbf⟩
    · have hle : ¬ (dd : Int) ≤ 1 := by have := H.out.2.2.2.2.1; omega
      by_cases h3 : m3 = 0
      · subst h3
        have hkl : plainK picks a dd = (.num m2, a + 1) := by
          have h := plainK_leaf (picks := picks) (at_ := a) (d := d) (Or.inr (by rw [H.out.2.2.2.1]; exact HE.out.2.2.1))
          rw [H.out.2.2.2.1, HE.out.1] at h
          rw [H.out.2.2.2.2.1]; exact h
        have HL := Lib.hid hkl
        clear hkl hd0 ht7
        have hc := kvalue_any m2 HE.out.2.2.2.1 (w := w1) HB.out.2.2
        have HC := Lib.hid hc
        clear hc
        go_wp2_with fail
        refine HC.out.mono ?_; rintro e w2 ⟨rfl, hb2⟩
        have hk := HB.out.2.1.next hb2
        have HK := Lib.hid (And.intro hk (And.intro (Below.trans HB.out.1 (hb2.mono (Nat.le_of_lt HB.out.2.1.lt))) True.intro))
        have r0 := hk.cell (i := 0) rfl
        have r1 := hk.cell (i := 1) rfl
        have r2 := hk.cell (i := 2) rfl
        have r3 := hk.cell (i := 3) rfl
        have r4 := hk.cell (i := 4) rfl
        have r5 := hk.cell (i := 5) rfl
        have f0 := hk.frz 0
        have f1 := hk.frz 1
        have f2 := hk.frz 2
        have f3 := hk.frz 3
        have f4 := hk.frz 4
        have f5 := hk.frz 5
        clear hk hb2 HC
        go_wp2_with fail
        have hf := blk6 HK.out.1 (.int .i64 1) (.int .i64 0) (.int .i64 0) (.int .i64 0) (.string (dec m2)) (.slice none 0 0)
        have hbf := below6 HK.out.2.1 (Nat.le_refl _) (.int .i64 1) (.int .i64 0) (.int .i64 0) (.int .i64 0) (.string (dec m2)) (.slice none 0 0)
        clear r0 r1 r2 r3 r4 r5 f0 f1 f2 f3 f4 f5
        generalize ((((((w2.setCell ⟨b0, 0, none⟩ (.int .i64 1)).setCell ⟨b0, 1, none⟩ (.int .i64 0)).setCell ⟨b0, 2, none⟩ (.int .i64 0)).setCell ⟨b0, 3, none⟩ (.int .i64 0)).setCell ⟨b0, 4, none⟩ (.string (dec m2))).setCell ⟨b0, 5, none⟩ (.slice none 0 0)) = w9 at *
        have e0 := hf.cell (i := 0) rfl
        have e1 := hf.cell (i := 1) rfl
        have e2 := hf.cell (i := 2) rfl
        have e3 := hf.cell (i := 3) rfl
        have e4 := hf.cell (i := 4) rfl
        have e5 := hf.cell (i := 5) rfl
        exact bodyPost_ret (v := .tuple #[.agg #[.int .i64 1, .int .i64 0, .int .i64 0, .int .i64 0, .string (dec m2), .slice none 0 0], .int .i64 ((a + 1 : Nat) : Int)]) (by simp [results, Tryz.results4, go_sem, e0, e1, e2, e3, e4, e5]) rfl ⟨[.int .i64 1, .int .i64 0, .int .i64 0, .int .i64 0, .string (dec m2), .slice none 0 0], by rw [HL.out], by rw [HL.out]; exact rfl, by rw [hb0s.out]; exact hbf⟩
      · have hm3 : ¬ (m3 : Int) = 0 := by omega
        have ihd := H.out.2.2.2.2.2.2.2.1.resolve_left hd0
        have hkl : plainK picks a dd = (.bin m7 (plainK picks (a + 1) d).1 (plainK picks (plainK picks (a + 1) d).2 d).1, (plainK picks (plainK picks (a + 1) d).2 d).2) := by
          have h := plainK_bin (picks := picks) (at_ := a) (d := d) (by rw [H.out.2.2.2.1, HE.out.2.2.1]; omega)
          rw [H.out.2.2.2.1, HE.out.2.1] at h
          rw [H.out.2.2.2.2.1]; exact h
        have hle1 := plainK_le picks d (a + 1)
        obtain ⟨ra, na, hra⟩ : ∃ x n, plainK picks (a + 1) d = (x, n) := ⟨_, _, rfl⟩
        rw [hra] at hkl hle1
        dsimp only at hkl hle1
        obtain ⟨rb, nb, hrb⟩ : ∃ x n, plainK picks na d = (x, n) := ⟨_, _, rfl⟩
        rw [hrb] at hkl
        dsimp only at hkl
        have HL := Lib.hid (And.intro hkl (And.intro hra (And.intro hrb (And.intro hle1 ihd))))
        clear hkl hra hrb hle1 ihd hd0 h3 ht2
        have hcl : ∀ W : World, (W.alloc (.cells (opL.map Value.string).toArray 9)).cell? ⟨W.heap.size, m7, none⟩ = some (.string (opT m7)) := fun W => (Blk.new (w := W) 9 (opL.map Value.string)).cell (by
          have : m7 = 0 ∨ m7 = 1 ∨ m7 = 2 ∨ m7 = 3 ∨ m7 = 4 ∨ m7 = 5 ∨ m7 = 6 := by omega
          rcases this with rfl | rfl | rfl | rfl | rfl | rfl | rfl <;> rfl)
        have hc1 := hcl w1
        change (w1.alloc (.cells #[.string ⟨#[43]⟩, .string ⟨#[45]⟩, .string ⟨#[42]⟩, .string ⟨#[38]⟩, .string ⟨#[124]⟩, .string ⟨#[94]⟩, .string ⟨#[126, 94]⟩] 9)).cell? _ = _ at hc1
        have hm70 : (0 : Int) ≤ (m7 : Int) := by omega
        have hm71 : (m7 : Int) < 7 := by omega
        clear hcl
        go_upto_region 7 with fail
        have hn3 := Below.new w1 (.cells #[.string ⟨#[43]⟩, .string ⟨#[45]⟩, .string ⟨#[42]⟩, .string ⟨#[38]⟩, .string ⟨#[124]⟩, .string ⟨#[94]⟩, .string ⟨#[126, 94]⟩] 9)
        have hb3 := Below.trans HB.out.1 (hn3.mono (Nat.le_of_lt HB.out.2.1.lt))
        have HB3 := Lib.hid (And.intro hb3 (And.intro (HB.out.2.1.next hn3) (And.intro (tab_below HB.out.2.2 hn3) (H.out.2.1.below (hb0s.out ▸ hb3)))))
        change Hid (Below _ _ (w1.alloc (.cells #[.string ⟨#[43]⟩, .string ⟨#[45]⟩, .string ⟨#[42]⟩, .string ⟨#[38]⟩, .string ⟨#[124]⟩, .string ⟨#[94]⟩, .string ⟨#[126, 94]⟩] 9)) ∧ _) at HB3
        clear hn3 hb3 hc1 hm70 hm71 ht7 wm7
        generalize (w1.alloc (.cells #[.string ⟨#[43]⟩, .string ⟨#[45]⟩, .string ⟨#[42]⟩, .string ⟨#[38]⟩, .string ⟨#[124]⟩, .string ⟨#[94]⟩, .string ⟨#[126, 94]⟩] 9)) = w3 at *
        have hI := HL.out.2.2.2.2 (a + 1) w3 (by have := H.out.1; have := H.out.2.2.2.2.2.2.2.2; have := Nat.two_pow_pos d; omega) HB3.out.2.2.1 HB3.out.2.2.2
        rw [HL.out.2.1] at hI
        have HI := Lib.hid hI
        clear hI
        go_wp2_with fail
        refine HI.out.mono ?_; rintro e w4 ⟨ca, rfl, hxa, hba⟩
        obtain ⟨k1, t1, p1, n1, c1, rfl⟩ := hxa.form
        have HX4 := Lib.hid (And.intro (Below.trans HB3.out.1 (hba.mono (Nat.le_of_lt HB3.out.2.1.lt))) (And.intro (HB3.out.2.1.next hba) (And.intro (tab_below HB3.out.2.2.1 hba) (And.intro (HB3.out.2.2.2.below hba) (hxa.mono (A' := fun k => b0 < k) (fun k hk => Nat.lt_of_lt_of_le HB3.out.2.1.lt hk))))))
        clear hba hxa HI
        go_upto_region 8 with fail
        have hn := Below.new w4 (.cells #[.int .i64 k1, .int .i64 0, .int .i64 0, .int .i64 0, .string t1, .slice p1 n1 c1] 27)
        have HX5 := Lib.hid (And.intro (Below.trans HX4.out.1 (hn.mono (Nat.le_of_lt HX4.out.2.1.lt))) (And.intro (HX4.out.2.1.next hn) (And.intro (tab_below HX4.out.2.2.1 hn) (And.intro (HX4.out.2.2.2.1.below hn) (And.intro (HX4.out.2.2.2.2.up hn) (And.intro (Blk.new (w := w4) 27 [.int .i64 k1, .int .i64 0, .int .i64 0, .int .i64 0, .string t1, .slice p1 n1 c1]) HX4.out.2.1.lt))))))
        obtain ⟨bA, hbA⟩ : ∃ b, w4.heap.size = b := ⟨_, rfl⟩
        rw [hbA] at HX5 ⊢
        change Hid (Below _ _ (w4.alloc (.cells #[.int .i64 k1, .int .i64 0, .int .i64 0, .int .i64 0, .string t1, .slice p1 n1 c1] 27)) ∧ _) at HX5
        generalize (w4.alloc (.cells #[.int .i64 k1, .int .i64 0, .int .i64 0, .int .i64 0, .string t1, .slice p1 n1 c1] 27)) = w5 at *
        clear hn hbA
        have hI := HL.out.2.2.2.2 na w5 (by have := H.out.1; have := HL.out.2.2.2.1; have := H.out.2.2.2.2.2.2.2.2; omega) HX5.out.2.2.1 HX5.out.2.2.2.1
        rw [HL.out.2.2.1] at hI
        have HI := Lib.hid hI
        clear hI
        go_wp2_with fail
        refine HI.out.mono ?_; rintro e w6 ⟨cb, rfl, hxb, hbb⟩
        obtain ⟨k2, t2, p2, n2, c2, rfl⟩ := hxb.form
        have HX6 := Lib.hid (And.intro (Below.trans HX5.out.1 (hbb.mono (Nat.le_of_lt HX5.out.2.1.lt))) (And.intro (HX5.out.2.1.next hbb) (And.intro (HX5.out.2.2.2.2.1.up hbb) (And.intro (hxb.mono (A' := fun k => b0 < k) (fun k hk => Nat.lt_of_lt_of_le HX5.out.2.1.lt hk)) (And.intro (HX5.out.2.2.2.2.2.1.next hbb) HX5.out.2.2.2.2.2.2)))))
        clear hbb hxb HI
        go_upto_region 9 with fail
        have hn := Below.new w6 (.cells #[.int .i64 k2, .int .i64 0, .int .i64 0, .int .i64 0, .string t2, .slice p2 n2 c2] 27)
        have HX7 := Lib.hid (And.intro (Below.trans HX6.out.1 (hn.mono (Nat.le_of_lt HX6.out.2.1.lt))) (And.intro (HX6.out.2.1.next hn) (And.intro (HX6.out.2.2.1.up hn) (And.intro (HX6.out.2.2.2.1.up hn) (And.intro (HX6.out.2.2.2.2.1.next hn) (Blk.new (w := w6) 27 [.int .i64 k2, .int .i64 0, .int .i64 0, .int .i64 0, .string t2, .slice p2 n2 c2]))))))
        obtain ⟨bB, hbB⟩ : ∃ b, w6.heap.size = b := ⟨_, rfl⟩
        rw [hbB] at HX7 ⊢
        change Hid (Below _ _ (w6.alloc (.cells #[.int .i64 k2, .int .i64 0, .int .i64 0, .int .i64 0, .string t2, .slice p2 n2 c2] 27)) ∧ _) at HX7
        generalize (w6.alloc (.cells #[.int .i64 k2, .int .i64 0, .int .i64 0, .int .i64 0, .string t2, .slice p2 n2 c2] 27)) = w7 at *
        clear hn hbB
        have x0 := HX7.out.2.2.2.2.1.cell (i := 0) rfl
        have x1 := HX7.out.2.2.2.2.1.cell (i := 1) rfl
        have x2 := HX7.out.2.2.2.2.1.cell (i := 2) rfl
        have x3 := HX7.out.2.2.2.2.1.cell (i := 3) rfl
        have x4 := HX7.out.2.2.2.2.1.cell (i := 4) rfl
        have x5 := HX7.out.2.2.2.2.1.cell (i := 5) rfl
        have y0 := HX7.out.2.2.2.2.2.cell (i := 0) rfl
        have y1 := HX7.out.2.2.2.2.2.cell (i := 1) rfl
        have y2 := HX7.out.2.2.2.2.2.cell (i := 2) rfl
        have y3 := HX7.out.2.2.2.2.2.cell (i := 3) rfl
        have y4 := HX7.out.2.2.2.2.2.cell (i := 4) rfl
        have y5 := HX7.out.2.2.2.2.2.cell (i := 5) rfl
        have hn := Below.new w7 (.cells #[.int .i64 k1, .int .i64 0, .int .i64 0, .int .i64 0, .string t1, .slice p1 n1 c1, .int .i64 k2, .int .i64 0, .int .i64 0, .int .i64 0, .string t2, .slice p2 n2 c2] 27)
        have hk := HX7.out.2.1.next hn
        have r0 := hk.cell (i := 0) rfl
        have r1 := hk.cell (i := 1) rfl
        have r2 := hk.cell (i := 2) rfl
        have r3 := hk.cell (i := 3) rfl
        have r4 := hk.cell (i := 4) rfl
        have r5 := hk.cell (i := 5) rfl
        have f0 := hk.frz 0
        have f1 := hk.frz 1
        have f2 := hk.frz 2
        have f3 := hk.frz 3
        have f4 := hk.frz 4
        have f5 := hk.frz 5
        have HK := Lib.hid (And.intro hk (And.intro (Below.trans HX7.out.1 (hn.mono (Nat.le_of_lt HX7.out.2.1.lt))) (And.intro (HX7.out.2.2.1.up hn) (And.intro (HX7.out.2.2.2.1.up hn) (And.intro (Blk.new (w := w7) 27 [.int .i64 k1, .int .i64 0, .int .i64 0, .int .i64 0, .string t1, .slice p1 n1 c1, .int .i64 k2, .int .i64 0, .int .i64 0, .int .i64 0, .string t2, .slice p2 n2 c2]) HX7.out.2.1.lt)))))
        clear hk hn
        go_wp2_with fail
        have hf := blk6 HK.out.1 (.int .i64 4) (.int .i64 0) (.int .i64 0) (.int .i64 0) (.string (opT m7)) (.slice (some ⟨w7.heap.size, 0, none⟩) 2 2)
        have hbf := below6 HK.out.2.1 (Nat.le_refl _) (.int .i64 4) (.int .i64 0) (.int .i64 0) (.int .i64 0) (.string (opT m7)) (.slice (some ⟨w7.heap.size, 0, none⟩) 2 2)
        have hbf2 := upd6 (w7.alloc (.cells #[.int .i64 k1, .int .i64 0, .int .i64 0, .int .i64 0, .string t1, .slice p1 n1 c1, .int .i64 k2, .int .i64 0, .int .i64 0, .int .i64 0, .string t2, .slice p2 n2 c2] 27)) b0 (.int .i64 4) (.int .i64 0) (.int .i64 0) (.int .i64 0) (.string (opT m7)) (.slice (some ⟨w7.heap.size, 0, none⟩) 2 2)
        clear r0 r1 r2 r3 r4 r5 f0 f1 f2 f3 f4 f5 x0 x1 x2 x3 x4 x5 y0 y1 y2 y3 y4 y5
        generalize (((((((w7.alloc (.cells #[.int .i64 k1, .int .i64 0, .int .i64 0, .int .i64 0, .string t1, .slice p1 n1 c1, .int .i64 k2, .int .i64 0, .int .i64 0, .int .i64 0, .string t2, .slice p2 n2 c2] 27)).setCell ⟨b0, 0, none⟩ (.int .i64 4)).setCell ⟨b0, 1, none⟩ (.int .i64 0)).setCell ⟨b0, 2, none⟩ (.int .i64 0)).setCell ⟨b0, 3, none⟩ (.int .i64 0)).setCell ⟨b0, 4, none⟩ (.string (opT m7))).setCell ⟨b0, 5, none⟩ (.slice (some ⟨w7.heap.size, 0, none⟩) 2 2)) = w9 at *
        have e0 := hf.cell (i := 0) rfl
        have e1 := hf.cell (i := 1) rfl
        have e2 := hf.cell (i := 2) rfl
        have e3 := hf.cell (i := 3) rfl
        have e4 := hf.cell (i := 4) rfl
        have e5 := hf.cell (i := 5) rfl
        have hA : ∀ b, b0 < b → b < (w7.alloc (.cells #[.int .i64 k1, .int .i64 0, .int .i64 0, .int .i64 0, .string t1, .slice p1 n1 c1, .int .i64 k2, .int .i64 0, .int .i64 0, .int .i64 0, .string t2, .slice p2 n2 c2] 27)).heap.size → w.heap.size ≤ b ∧ w9.heap[b]? = (w7.alloc (.cells #[.int .i64 k1, .int .i64 0, .int .i64 0, .int .i64 0, .string t1, .slice p1 n1 c1, .int .i64 k2, .int .i64 0, .int .i64 0, .int .i64 0, .string t2, .slice p2 n2 c2] 27)).heap[b]? := fun b h1 h2 => ⟨by rw [hb0s.out]; exact Nat.le_of_lt h1, hbf2.block b h2 (fun e => by have : b = b0 := e; omega)⟩
        exact bodyPost_ret (v := .tuple #[.agg #[.int .i64 4, .int .i64 0, .int .i64 0, .int .i64 0, .string (opT m7), .slice (some ⟨w7.heap.size, 0, none⟩) 2 2], .int .i64 (nb : Nat)]) (by simp [results, Tryz.results4, go_sem, e0, e1, e2, e3, e4, e5]) rfl ⟨[.int .i64 4, .int .i64 0, .int .i64 0, .int .i64 0, .string (opT m7), .slice (some ⟨w7.heap.size, 0, none⟩) 2 2], by rw [HL.out.1], by rw [HL.out.1]; exact ⟨_, 2, _, _, rfl, (HK.out.2.2.2.2.1.roaF (B := b0) HK.out.2.2.2.2.2).turn hA, HK.out.2.2.1.turn hA, HK.out.2.2.2.1.turn hA⟩, by rw [hb0s.out]; exact hbf⟩
theorem plain_four {picks : List Int} {N : Nat} {p : Option Addr} {c : Nat} (hl : picks.length = N) : PlainC picks N p c 4 :=
  plain_step rfl (by decide) hl (Or.inr (plain_step rfl (by decide) hl (Or.inr (plain_step rfl (by decide) hl (Or.inr (plain_step rfl (by decide) hl (Or.inl rfl)))))))
end Go.Proofs.YtkoggfahjlnecaaGreatDoor
