import Derived.Test.YtmimafbedbohiaaA49
import Derived.Deep.CutRange
import Derived.Test.YtmimafbedbohiaaP6
namespace Go.Proofs.Ytmimafbedbohiaa
set_option linter.unusedVariables false
open Go.RowKit

set_option maxRecDepth 100000 in
set_option maxHeartbeats 16000000 in
theorem orders_law {w : World} {p : Option Addr} {n0 c m : Nat} {f g : Nat → Bool} {vb : Value} (hA : RO w (.slice p n0 c) 1 n0 (bools (rl n0 f))) (hc : n0 ≤ c) (hn0 : n0 ≤ 1000000000000000000) (hB : RO w vb 1 m (bools (rl m g))) :
    Calls Try.prog 6 #[.slice p n0 c, vb] w fun e w' => e = .returned (.bool true) ∧ Below w.heap.size w w' := by
  obtain ⟨pb, cb, rfl⟩ := hB.form
  have HAw := Lib.hid (awake_any w)
  have HSh := Lib.hid (fun w' (hb : Below w.heap.size w w') => short_any (hA.below hb) hc hn0)
  have HB0 := Lib.hid hB
  obtain ⟨n, hn⟩ : ∃ n, min n0 140 = n := ⟨_, rfl⟩
  have HA0 : Hid (RO w (.slice p n c) 1 n (bools (rl n f))) := Lib.hid (hA.short (by omega))
  rw [hn] at HSh
  have hn1 : n ≤ 140 := by omega
  have hni : (n : Int) ≤ 140 := by omega
  clear hA hB hc hn0 hn
  go_enter Try.func6, Try.ntmps6
  go_wp2_with fail
  refine HAw.out.mono ?_; rintro e w1 ⟨rfl, hb1⟩
  have HB1 := Lib.hid hb1
  clear hb1
  go_wp2_with fail
  refine (HSh.out _ HB1.out).mono ?_; rintro e w1' ⟨rfl, rfl⟩
  by_cases h0 : n = 0
  · subst h0
    go_wp2_with fail
    go_ret
    exact ⟨rfl, HB1.out⟩
  by_cases h1 : 128 < n
  · have hd : ((n : Int) == 0) = false := by simp; omega
    have hi : (128 : Int) < n := by omega
    clear h0 h1
    go_wp2_with fail
    go_ret
    exact ⟨rfl, HB1.out⟩
  have hd : ((n : Int) == 0) = false := by simp; omega
  have hi : (n : Int) ≤ 128 := by omega
  have HN := Lib.hid (And.intro (show 1 ≤ n by omega) (show n ≤ 128 by omega))
  have HA : Hid (RO w1 (.slice p n c) 1 n (bools (rl n f))) := Lib.hid (HA0.out.below HB1.out)
  have HB : Hid (RO w1 (.slice pb m cb) 1 m (bools (rl m g))) := Lib.hid (HB0.out.below HB1.out)
  clear h0 h1 hn1 hni
  go_wp2_with fail
  refine (own_good HA.out HN.out.1 HN.out.2).mono ?_; rintro e w2 ⟨vx, rfl, hvx, hb2, _⟩
  obtain ⟨px, cx, rfl, _⟩ := hvx.ex
  have HX := Lib.hid (And.intro hvx hb2)
  clear hvx hb2
  go_wp2_with fail
  refine (fit_any (HB.out.below HX.out.2) (Nat.le_trans HN.out.2 (by decide))).mono ?_; rintro e w3 ⟨vf, rfl, hf, hb3⟩
  have HF := Lib.hid (And.intro hf hb3)
  clear hf hb3
  obtain ⟨pf, cf, rfl⟩ := HF.out.1.form
  go_wp2_with fail
  refine (own_good HF.out.1 HN.out.1 HN.out.2).mono ?_; rintro e w4 ⟨vy, rfl, hvy, hb4, _⟩
  obtain ⟨py, cy, rfl, _⟩ := hvy.ex
  have hT4 := (((Tr.nil w).below HB1.out).below HX.out.2).below HF.out.2 |>.below hb4
  have HT4 := Lib.hid ((hT4.lay 26 [.int .i64 n, .slice px (wcount n) cx]).lay 26 [.int .i64 n, .slice py (wcount n) cy])
  have hbl : Below w4.heap.size w4 ((w4.alloc (.cells [Value.int .i64 n, .slice px (wcount n) cx].toArray 26)).alloc (.cells [Value.int .i64 n, .slice py (wcount n) cy].toArray 26)) := (Below.new _ _).alloc (by simp) _
  have HV4 := Lib.hid (And.intro (((HX.out.1.below HF.out.2).below hb4).below hbl) (hvy.below hbl))
  have hs5 : ((w4.alloc (.cells [Value.int .i64 n, .slice px (wcount n) cx].toArray 26)).alloc (.cells [Value.int .i64 n, .slice py (wcount n) cy].toArray 26)).heap.size = w4.heap.size + 1 + 1 := by simp
  have HS5 := Lib.hid hs5
  simp only [World.size_alloc] at HT4
  clear hvy hb4 hT4 hbl HF hs5
  have HNew : Hid (∀ (x m : Nat) (w' : World) (k : Nat), 1 ≤ m → m ≤ 128 → x < 2 ^ 64 → w'.heap.size = k → Calls Try.prog 14 #[.int .i64 m, .slice (some ⟨k, 0, none⟩) 1 1] (w'.alloc (.cells #[.int .u64 x] 22)) (RetE (w'.alloc (.cells #[.int .u64 x] 22)) m (x % 2 ^ m) 0)) := Lib.hid fun x m w' k h1 h2 hx hk => by
    subst hk
    have := new_good (w := w'.alloc (.cells (natsV [x]).toArray 22)) (l := [x]) m h1 h2 _ (RO.lits (Blk.new 22 (natsV [x]))) (by simpa using hx)
    simp only [valW, Nat.mul_zero, Nat.add_zero] at this
    exact this
  have HNew0 : Hid (∀ (w' : World) (k : Nat), w'.heap.size = k → Calls Try.prog 14 #[.int .i64 n, .slice (some ⟨k, 0, none⟩) 1 1] (w'.alloc (.cells #[.int .u64 0] 22)) (RetE (w'.alloc (.cells #[.int .u64 0] 22)) n 0 0)) := Lib.hid fun w' k hk => by
    have := HNew.out 0 n w' k HN.out.1 HN.out.2 (by decide) hk; rwa [Nat.zero_mod] at this
  have HNew1 : Hid (∀ (w' : World) (k : Nat), w'.heap.size = k → Calls Try.prog 14 #[.int .i64 1, .slice (some ⟨k, 0, none⟩) 1 1] (w'.alloc (.cells #[.int .u64 1] 22)) (RetE (w'.alloc (.cells #[.int .u64 1] 22)) 1 1 0)) := Lib.hid fun w' k hk => HNew.out 1 1 w' k (by decide) (by decide) (by decide) hk
  clear HNew
  go_wp2_with fail
  generalize (w4.alloc (.cells #[Value.int .i64 n, .slice px (wcount n) cx] 26)).alloc (.cells #[Value.int .i64 n, .slice py (wcount n) cy] 26) = W5 at *
  refine (HNew0.out _ _ HS5.out).mono ?_; rintro e w5 ⟨vh, rfl, hvh, hb5, _⟩
  obtain ⟨ph, ch, rfl, _⟩ := hvh.ex
  have HB5 := Lib.hid (Below.then (Below.new _ _) hb5 (Nat.le_refl _))
  have HT5 := Lib.hid ((HT4.out.below HB5.out).lay 26 [.int .i64 n, .slice ph (wcount n) ch])
  have NX := Lib.hid (VR.new_ne (HV4.out.1.below HB5.out) HN.out.1)
  have NY := Lib.hid (VR.new_ne (HV4.out.2.below HB5.out) HN.out.1)
  have HV5 := Lib.hid (And.intro ((HV4.out.1.below HB5.out).below (Below.new w5 (.cells #[.int .i64 n, .slice ph (wcount n) ch] 26))) (And.intro ((HV4.out.2.below HB5.out).below (Below.new w5 (.cells #[.int .i64 n, .slice ph (wcount n) ch] 26))) (hvh.below (Below.new w5 (.cells #[.int .i64 n, .slice ph (wcount n) ch] 26)))))
  have HS6 := Lib.hid (show (w5.alloc (.cells #[Value.int .i64 n, .slice ph (wcount n) ch] 26)).heap.size = w5.heap.size + 1 by simp)
  clear hvh hb5
  go_wp2_with fail
  generalize w5.alloc (.cells #[Value.int .i64 n, .slice ph (wcount n) ch] 26) = W6 at *
  refine (HNew1.out _ _ HS6.out).mono ?_; rintro e w6 ⟨vo, rfl, hvo, hb6, _⟩
  obtain ⟨po, co, rfl, _⟩ := hvo.ex
  have hvo : VR w6 (.agg #[.int .i64 1, .slice po (wcount 1) co]) 1 1 := hvo
  have HB6 := Lib.hid (Below.then (Below.new _ _) hb6 (Nat.le_refl _))
  have HT6 := Lib.hid ((HT5.out.below HB6.out).lay 26 [.int .i64 1, .slice po (wcount 1) co])
  have HBo := Lib.hid (Below.new w6 (.cells #[.int .i64 1, .slice po (wcount 1) co] 26))
  have HV6 := Lib.hid (And.intro ((HV5.out.1.below HB6.out).below HBo.out) (And.intro ((HV5.out.2.1.below HB6.out).below HBo.out) (And.intro ((HV5.out.2.2.below HB6.out).below HBo.out) (hvo.below HBo.out))))
  have q0 := (HT6.out.pr 1 rfl).1
  have q1 := (HT6.out.pr 1 rfl).2
  clear hvo hb6
  have hw : IntKind.i64.wrap ((n : Int) - 1) = (n : Int) - 1 := IntWalk.i64_in _ (by omega)
  have HPut := Lib.hid (put_good HV6.out.2.2.1 HV6.out.2.2.2 (n - 1) (by decide) (by have := HN.out.1; omega))
  rw [show (((n - 1 : Nat) : Nat) : Int) = (n : Int) - 1 by have := HN.out.1; omega, put_high (by have := HN.out.1; omega)] at HPut
  have HBo := Lib.hid HBo.out
  go_wp2_with fail
  generalize w6.alloc (.cells #[Value.int .i64 1, .slice po (wcount 1) co] 26) = W7 at *
  refine HPut.out.mono ?_; rintro e w7 ⟨vH, rfl, hvH, hb7, hfH⟩
  obtain ⟨pH, cH, rfl, _⟩ := hvH.ex
  have NH := Lib.hid (Far.ne hfH (HT6.out.at 1 rfl).lt)
  have HT7 := Lib.hid (HT6.out.below hb7)
  have HV7 := Lib.hid (And.intro (HV6.out.1.below hb7) (And.intro (HV6.out.2.1.below hb7) hvH))
  have r0 := (HT7.out.pr 1 rfl).1
  have r1 := (HT7.out.pr 1 rfl).2
  have f0 := (HT7.out.at 1 rfl).frz 0
  have f1 := (HT7.out.at 1 rfl).frz 1
  have HT7' := Lib.hid (HT7.out.two 1 (x := .int .i64 n) (y := .slice pH (wcount n) cH) rfl)
  have HV7' := Lib.hid (And.intro (HV7.out.1.set2 (x1 := .int .i64 n) (y1 := .slice pH (wcount n) cH) NX.out) (And.intro (HV7.out.2.1.set2 (x1 := .int .i64 n) (y1 := .slice pH (wcount n) cH) NY.out) (HV7.out.2.2.set2 (x1 := .int .i64 n) (y1 := .slice pH (wcount n) cH) NH.out)))
  have t0 := (HT7'.out.pr 3 rfl).1
  have t1 := (HT7'.out.pr 3 rfl).2
  have u0 := (HT7'.out.pr 1 rfl).1
  have u1 := (HT7'.out.pr 1 rfl).2
  clear hvH hb7 hfH
  go_wp2_with fail
  generalize (w7.setCell ⟨w5.heap.size, 0, none⟩ (.int .i64 n)).setCell ⟨w5.heap.size, 1, none⟩ (.slice pH (wcount n) cH) = W7b at *
  refine (bin_9 HV7'.out.1 HV7'.out.2.2 HN.out.1).mono ?_; rintro e w8 ⟨vu, rfl, hvu, hb8, _⟩
  obtain ⟨pu, cu, rfl, _⟩ := hvu.ex
  have HBu := Lib.hid (Below.new w8 (.cells #[.int .i64 n, .slice pu (wcount n) cu] 26))
  have HT8 := Lib.hid ((HT7'.out.below hb8).lay 26 [.int .i64 n, .slice pu (wcount n) cu])
  have HV8 := Lib.hid (And.intro ((HV7'.out.1.below hb8).below HBu.out) (And.intro ((HV7'.out.2.1.below hb8).below HBu.out) (And.intro ((HV7'.out.2.2.below hb8).below HBu.out) (hvu.below HBu.out))))
  have t0 := (HT8.out.pr 3 rfl).1
  have t1 := (HT8.out.pr 3 rfl).2
  have u0 := (HT8.out.pr 2 rfl).1
  have u1 := (HT8.out.pr 2 rfl).2
  clear hvu hb8 r0 r1 f0 f1
  go_wp2_with fail
  refine (bin_9 HV8.out.2.1 HV8.out.2.2.1 HN.out.1).mono ?_; rintro e w9 ⟨vv, rfl, hvv, hb9, _⟩
  obtain ⟨pv, cv, rfl, _⟩ := hvv.ex
  have HBv := Lib.hid (Below.new w9 (.cells #[.int .i64 n, .slice pv (wcount n) cv] 26))
  have HT9 := Lib.hid ((HT8.out.below hb9).lay 26 [.int .i64 n, .slice pv (wcount n) cv])
  have HV9 := Lib.hid (And.intro ((HV8.out.1.below hb9).below HBv.out) (And.intro ((HV8.out.2.1.below hb9).below HBv.out) (And.intro ((HV8.out.2.2.2.below hb9).below HBv.out) (hvv.below HBv.out))))
  clear hvv hb9 t0 t1 u0 u1
  go_wp2_with fail
  generalize w9.alloc (.cells #[Value.int .i64 n, .slice pv (wcount n) cv] 26) = W9 at *
  have a0 := After.cell (HT9.out.pr 5 rfl).1
  have a1 := After.cell (HT9.out.pr 5 rfl).2
  have b0 := After.cell (HT9.out.pr 4 rfl).1
  have b1 := After.cell (HT9.out.pr 4 rfl).2
  have c0 := After.cell (HT9.out.pr 1 rfl).1
  have c1 := After.cell (HT9.out.pr 1 rfl).2
  have d0 := After.cell (HT9.out.pr 0 rfl).1
  have d1 := After.cell (HT9.out.pr 0 rfl).2
  obtain ⟨X, hX⟩ : ∃ X, ofB f n = X := ⟨_, rfl⟩
  obtain ⟨Y, hY⟩ : ∃ Y, ofB (fitF g m) n = Y := ⟨_, rfl⟩
  have hXl : X < 2 ^ n := by rw [← hX]; exact ofB_lt _ _
  have hYl : Y < 2 ^ n := by rw [← hY]; exact ofB_lt _ _
  rw [hX, hY] at HV9
  have hs1 := slt_xor HN.out.1 hXl hYl
  have hs2 := slt_xor HN.out.1 hYl hXl
  have K1 := Lib.hid (fun s : After W9 => is_any (k := 15) (HV9.out.1.below s.below) (HV9.out.2.1.below s.below) fun w' hb => bin_15 ((HV9.out.1.below s.below).below hb) ((HV9.out.2.1.below s.below).below hb) HN.out.1)
  have K2 := Lib.hid (fun s : After W9 => is_any (k := 15) (HV9.out.2.1.below s.below) (HV9.out.1.below s.below) fun w' hb => bin_15 ((HV9.out.2.1.below s.below).below hb) ((HV9.out.1.below s.below).below hb) HN.out.1)
  have K3 := Lib.hid (fun s : After W9 => is_any (k := 13) (HV9.out.1.below s.below) (HV9.out.2.1.below s.below) fun w' hb => bin_13 ((HV9.out.1.below s.below).below hb) ((HV9.out.2.1.below s.below).below hb) HN.out.1)
  have K4 := Lib.hid (fun s : After W9 => is_any (k := 16) (HV9.out.1.below s.below) (HV9.out.2.1.below s.below) fun w' hb => bin_16 ((HV9.out.1.below s.below).below hb) ((HV9.out.2.1.below s.below).below hb) HN.out.1)
  have K5 := Lib.hid (fun s : After W9 => is_any (k := 14) (HV9.out.1.below s.below) (HV9.out.2.1.below s.below) fun w' hb => bin_14 ((HV9.out.1.below s.below).below hb) ((HV9.out.2.1.below s.below).below hb) HN.out.1)
  have K6 := Lib.hid (fun s : After W9 => is_any (k := 17) (HV9.out.1.below s.below) (HV9.out.2.1.below s.below) fun w' hb => bin_17 ((HV9.out.1.below s.below).below hb) ((HV9.out.2.1.below s.below).below hb) HN.out.1)
  have K7 := Lib.hid (fun s : After W9 => is_any (k := 15) (HV9.out.2.2.1.below s.below) (HV9.out.2.2.2.below s.below) fun w' hb => bin_15 ((HV9.out.2.2.1.below s.below).below hb) ((HV9.out.2.2.2.below s.below).below hb) HN.out.1)
  have K8 := Lib.hid (fun s : After W9 => is_any (k := 18) (HV9.out.1.below s.below) (HV9.out.2.1.below s.below) fun w' hb => bin_18 ((HV9.out.1.below s.below).below hb) ((HV9.out.2.1.below s.below).below hb) HN.out.1)
  have K9 := Lib.hid (fun s : After W9 => is_any (k := 16) (HV9.out.2.2.1.below s.below) (HV9.out.2.2.2.below s.below) fun w' hb => bin_16 ((HV9.out.2.2.1.below s.below).below hb) ((HV9.out.2.2.2.below s.below).below hb) HN.out.1)
  obtain ⟨s1, e1⟩ : ∃ s, decide (X ^^^ 2 ^ (n - 1) < Y ^^^ 2 ^ (n - 1)) = s := ⟨_, rfl⟩
  obtain ⟨s2, e2⟩ : ∃ s, decide (Y ^^^ 2 ^ (n - 1) < X ^^^ 2 ^ (n - 1)) = s := ⟨_, rfl⟩
  have hc15 : ∀ A B, cmpB 15 n A B = decide (A < B) := fun _ _ => rfl
  have hc16 : ∀ A B, cmpB 16 n A B = !decide (B < A) := fun _ _ => rfl
  have hc13 : ∀ A B, cmpB 13 n A B = decide (A = B) := fun _ _ => rfl
  have hc14 : ∀ A B, cmpB 14 n A B = !decide (A = B) := fun _ _ => rfl
  have hc17 : ∀ A B, cmpB 17 n A B = sltB n A B := fun _ _ => rfl
  have hc18 : ∀ A B, cmpB 18 n A B = !sltB n B A := fun _ _ => rfl
  rw [hc15] at K1 K2 K7
  rw [hc13] at K3
  rw [hc16] at K4 K9
  rw [hc14] at K5
  rw [hc17, hs1] at K6
  rw [hc18, hs2] at K8
  rw [e1] at K6 K7
  rw [e2] at K8 K9
  obtain ⟨i1, q1⟩ : ∃ i : Int, (if decide (X < Y) = true then (1 : Int) else 0) = i := ⟨_, rfl⟩
  obtain ⟨i2, q2⟩ : ∃ i : Int, (if decide (Y < X) = true then (1 : Int) else 0) = i := ⟨_, rfl⟩
  obtain ⟨i3, q3⟩ : ∃ i : Int, (if decide (X = Y) = true then (1 : Int) else 0) = i := ⟨_, rfl⟩
  obtain ⟨i4, q4⟩ : ∃ i : Int, (if (!decide (Y < X)) = true then (1 : Int) else 0) = i := ⟨_, rfl⟩
  obtain ⟨i5, q5⟩ : ∃ i : Int, (if (!decide (X = Y)) = true then (1 : Int) else 0) = i := ⟨_, rfl⟩
  obtain ⟨i6, q6⟩ : ∃ i : Int, (if s1 = true then (1 : Int) else 0) = i := ⟨_, rfl⟩
  obtain ⟨i8, q8⟩ : ∃ i : Int, (if (!s2) = true then (1 : Int) else 0) = i := ⟨_, rfl⟩
  have h2 : (i2 = 0 ∧ i4 = 1) ∨ (i2 = 1 ∧ i4 = 0) := by
    rw [← q2, ← q4]; by_cases h : Y < X <;> simp [h]
  have h3 : (i3 = 0 ∧ i5 = 1) ∨ (i3 = 1 ∧ i5 = 0) := by
    rw [← q3, ← q5]; by_cases h : X = Y <;> simp [h]
  have hs : i1 + i2 + i3 = 1 := by
    rw [← q1, ← q2, ← q3]
    rcases Nat.lt_trichotomy X Y with h | h | h
    · simp [h, show ¬ Y < X by omega, show ¬ X = Y by omega]
    · simp [h]
    · simp [h, show ¬ X < Y by omega, show ¬ X = Y by omega]
  have h1 : 0 ≤ i1 ∧ i1 ≤ 1 := by rw [← q1]; by_cases h : X < Y <;> simp [h]
  obtain ⟨j12, w1⟩ : ∃ j, IntKind.i64.wrap (i1 + i2) = j := ⟨_, rfl⟩
  have w2 : IntKind.i64.wrap (j12 + i3) = 1 := by rw [← w1, IntWalk.i64_in (i1 + i2) (by omega), hs]; exact IntWalk.i64_in _ (by omega)
  have w3 : IntKind.i64.wrap (1 - i2) = i4 := by rw [IntWalk.i64_in _ (by omega)]; omega
  have w4 : IntKind.i64.wrap (1 - i3) = i5 := by rw [IntWalk.i64_in _ (by omega)]; omega
  rw [q1] at K1
  rw [q2] at K2
  rw [q3] at K3
  rw [q4] at K4
  rw [q5] at K5
  rw [q6] at K6 K7
  rw [q8] at K8 K9
  have HBE := Lib.hid HT9.out.bel
  clear q1 q2 q3 q4 q5 q6 q8 h1 h2 h3 hs hX hY hXl hYl hs1 hs2 e1 e2 hc13 hc14 hc15 hc16 hc17 hc18 hw HV9 HT9 HV8 HT8 HV7 HT7 HV7' HT7' HV6 HT6 HV5 HT5 HV4 HT4 HX HNew0 HNew1 HPut HSh HAw HA HB HA0 HB0 NX NY NH
  refine wp_region_after (by kernel_rfl) (by kernel_rfl) ?_
  simp only [List.append_eq, List.cons_append, List.nil_append]
  repeat (go_big_quiet_step ((first | (with_reducible exact Calls.after_of (K1.out _)) | (with_reducible exact Calls.after_of (K2.out _)) | (with_reducible exact Calls.after_of (K3.out _)) | (with_reducible exact Calls.after_of (K4.out _)) | (with_reducible exact Calls.after_of (K5.out _)) | (with_reducible exact Calls.after_of (K6.out _)) | (with_reducible exact Calls.after_of (K7.out _)) | (with_reducible exact Calls.after_of (K8.out _)) | (with_reducible exact Calls.after_of (K9.out _)))))
  refine wpQuiet_nil ?_
  rintro _ ⟨s, rfl⟩
  go_wp2_with fail
  go_ret
  exact ⟨rfl, HBE.out.trans (s.below.mono HBE.out.size)⟩
end Go.Proofs.Ytmimafbedbohiaa
