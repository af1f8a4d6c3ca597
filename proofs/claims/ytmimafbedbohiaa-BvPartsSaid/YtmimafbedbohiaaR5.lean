import Derived.Test.YtmimafbedbohiaaR4
namespace Go.Proofs.Ytmimafbedbohiaa
set_option linter.unusedVariables false
open Go.RowKit

theorem nsplit {w : World} {va vb : Value} {n A B : Nat} (hA : LN w va n A) (hB : LN w vb n B) (hn : n ≤ 128) : Calls Try.prog 67 #[va, vb] w (RetNP w n (divN n A B) (A % B)) := by
  unfold divN
  by_cases h : B = 0
  · rw [if_pos h, show A % B = A by rw [h, Nat.mod_zero]]; exact nsplit_zero hA hB hn h
  · rw [if_neg h]; exact nsplit_pos hA hB hn h
set_option maxRecDepth 100000 in
set_option maxHeartbeats 8000000 in
theorem nsigned_zero {w : World} {va vb : Value} {n A B : Nat} (hA : LN w va n A) (hB : LN w vb n B) (hn : n ≤ 128) (h0 : B = 0) : Calls Try.prog 68 #[va, vb] w (RetNP w n (notN n 0) A) := by
  have hAny := nany hB hn
  rw [h0, show nz 0 = false from rfl] at hAny
  have HAny := Lib.hid hAny
  have HSp := Lib.hid (nsplit_zero hA hB hn h0)
  obtain ⟨pa, ca, rfl⟩ := hA.form
  obtain ⟨pb, cb, rfl⟩ := hB.form
  clear hA hB hn h0 hAny
  go_enter Try.func68, Try.ntmps68
  go_wp2_with fail
  refine HAny.out.mono ?_; rintro e w1 ⟨rfl, rfl⟩
  go_wp2_with fail
  refine HSp.out.mono ?_; rintro e w2 ⟨v2, u2, rfl, h2, k2, hb2⟩
  have HF := Lib.hid (And.intro h2 (And.intro k2 hb2))
  clear h2 k2 hb2
  go_wp2_with fail
  go_ret2
  exact ⟨_, _, rfl, HF.out.1, HF.out.2.1, HF.out.2.2⟩
set_option maxRecDepth 100000 in
set_option maxHeartbeats 8000000 in
theorem nsigned_00 {w : World} {va vb : Value} {n A B : Nat} (hA : LN w va n A) (hB : LN w vb n B) (h1 : 1 ≤ n) (hn : n ≤ 128) (h0 : B ≠ 0) (hqa : topB n A = false) (hqb : topB n B = false) : Calls Try.prog 68 #[va, vb] w (RetNP w n (sdivN n A B) (sremN n A B)) := by
  have HN := Lib.hid hn
  have HA := Lib.hid hA
  have HB := Lib.hid hB
  have hAny := nany hB hn
  rw [show nz B = true by simp [nz, h0]] at hAny
  have HAny := Lib.hid hAny
  have HTA : Hid (∀ W, Below w.heap.size w W → Calls Try.prog 70 #[va] W fun e w' => e = .returned (.bool false) ∧ W = w') := Lib.hid fun W hb => by rw [← hqa]; exact ntop (hA.below hb) hn h1
  have HTB : Hid (∀ W, Below w.heap.size w W → Calls Try.prog 70 #[vb] W fun e w' => e = .returned (.bool false) ∧ W = w') := Lib.hid fun W hb => by rw [← hqb]; exact ntop (hB.below hb) hn h1
  have HQ : Hid (sdivN n A B = A / B ∧ sremN n A B = A % B) := Lib.hid (by unfold sdivN sremN magN; rw [hqa, hqb]; exact ⟨rfl, rfl⟩)
  rw [HQ.out.1, HQ.out.2]
  have HZ : Hid (B ≠ 0) := Lib.hid (by have h := magN_ne hB.lt h0; unfold magN at h; rw [hqb] at h; exact h)
  obtain ⟨pa, ca, rfl⟩ := hA.form
  obtain ⟨pb, cb, rfl⟩ := hB.form
  clear hA hB hn h0 hAny h1 hqa hqb HQ
  go_enter Try.func68, Try.ntmps68
  go_wp2_with fail
  refine HAny.out.mono ?_; rintro e w1 ⟨rfl, rfl⟩
  go_wp2_with fail
  refine (HTA.out _ (Below.refl _ _)).mono ?_; rintro e w1 ⟨rfl, rfl⟩
  have HX0 := Lib.hid (And.intro HA.out (And.intro HB.out (Below.refl w.heap.size w)))
  go_wp2_with fail
  refine (HTB.out _ HX0.out.2.2).mono ?_; rintro e w3 ⟨rfl, rfl⟩
  go_wp2_with fail
  refine (nsplit_pos HX0.out.1 HX0.out.2.1 HN.out HZ.out).mono ?_; rintro e w5 ⟨v5, u5, rfl, h5, k5, hb5⟩
  obtain ⟨p5, c5, rfl⟩ := h5.form
  obtain ⟨p6, c6, rfl⟩ := k5.form
  have HX5 := Lib.hid (And.intro h5 (And.intro k5 (HX0.out.2.2.trans (hb5.mono HX0.out.2.2.size))))
  clear h5 k5 hb5
  go_wp2_with fail
  refine (HTA.out _ HX5.out.2.2).mono ?_; rintro e w6 ⟨rfl, rfl⟩
  go_wp2_with fail
  refine (HTB.out _ HX5.out.2.2).mono ?_; rintro e w6 ⟨rfl, rfl⟩
  go_wp2_with fail
  refine (HTA.out _ HX5.out.2.2).mono ?_; rintro e w8 ⟨rfl, rfl⟩
  go_wp2_with fail
  go_ret2
  exact ⟨_, _, rfl, HX5.out.1, HX5.out.2.1, HX5.out.2.2⟩
set_option maxRecDepth 100000 in
set_option maxHeartbeats 8000000 in
theorem nsigned_01 {w : World} {va vb : Value} {n A B : Nat} (hA : LN w va n A) (hB : LN w vb n B) (h1 : 1 ≤ n) (hn : n ≤ 128) (h0 : B ≠ 0) (hqa : topB n A = false) (hqb : topB n B = true) : Calls Try.prog 68 #[va, vb] w (RetNP w n (sdivN n A B) (sremN n A B)) := by
  have HN := Lib.hid hn
  have HA := Lib.hid hA
  have HB := Lib.hid hB
  have hAny := nany hB hn
  rw [show nz B = true by simp [nz, h0]] at hAny
  have HAny := Lib.hid hAny
  have HTA : Hid (∀ W, Below w.heap.size w W → Calls Try.prog 70 #[va] W fun e w' => e = .returned (.bool false) ∧ W = w') := Lib.hid fun W hb => by rw [← hqa]; exact ntop (hA.below hb) hn h1
  have HTB : Hid (∀ W, Below w.heap.size w W → Calls Try.prog 70 #[vb] W fun e w' => e = .returned (.bool true) ∧ W = w') := Lib.hid fun W hb => by rw [← hqb]; exact ntop (hB.below hb) hn h1
  have HQ : Hid (sdivN n A B = negN n (A / negN n B) ∧ sremN n A B = A % negN n B) := Lib.hid (by unfold sdivN sremN magN; rw [hqa, hqb]; exact ⟨rfl, rfl⟩)
  rw [HQ.out.1, HQ.out.2]
  have HZ : Hid (negN n B ≠ 0) := Lib.hid (by have h := magN_ne hB.lt h0; unfold magN at h; rw [hqb] at h; exact h)
  obtain ⟨pa, ca, rfl⟩ := hA.form
  obtain ⟨pb, cb, rfl⟩ := hB.form
  clear hA hB hn h0 hAny h1 hqa hqb HQ
  go_enter Try.func68, Try.ntmps68
  go_wp2_with fail
  refine HAny.out.mono ?_; rintro e w1 ⟨rfl, rfl⟩
  go_wp2_with fail
  refine (HTA.out _ (Below.refl _ _)).mono ?_; rintro e w1 ⟨rfl, rfl⟩
  have HX0 := Lib.hid (And.intro HA.out (And.intro HB.out (Below.refl w.heap.size w)))
  go_wp2_with fail
  refine (HTB.out _ HX0.out.2.2).mono ?_; rintro e w3 ⟨rfl, rfl⟩
  go_wp2_with fail
  refine (nneg HX0.out.2.1 HN.out).mono ?_; rintro e w4 ⟨v4, rfl, h4, hb4⟩
  obtain ⟨p4, c4, rfl⟩ := h4.form
  have HX2 := Lib.hid (And.intro (HX0.out.1.below hb4) (And.intro h4 (HX0.out.2.2.trans (hb4.mono HX0.out.2.2.size))))
  clear h4 hb4
  go_wp2_with fail
  refine (nsplit_pos HX2.out.1 HX2.out.2.1 HN.out HZ.out).mono ?_; rintro e w5 ⟨v5, u5, rfl, h5, k5, hb5⟩
  obtain ⟨p5, c5, rfl⟩ := h5.form
  obtain ⟨p6, c6, rfl⟩ := k5.form
  have HX5 := Lib.hid (And.intro h5 (And.intro k5 (HX2.out.2.2.trans (hb5.mono HX2.out.2.2.size))))
  clear h5 k5 hb5
  go_wp2_with fail
  refine (HTA.out _ HX5.out.2.2).mono ?_; rintro e w6 ⟨rfl, rfl⟩
  go_wp2_with fail
  refine (HTB.out _ HX5.out.2.2).mono ?_; rintro e w6 ⟨rfl, rfl⟩
  go_wp2_with fail
  refine (nneg HX5.out.1 HN.out).mono ?_; rintro e w7 ⟨v7, rfl, h7, hb7⟩
  obtain ⟨p7, c7, rfl⟩ := h7.form
  have HX7 := Lib.hid (And.intro h7 (And.intro (HX5.out.2.1.below hb7) (HX5.out.2.2.trans (hb7.mono HX5.out.2.2.size))))
  clear h7 hb7
  go_wp2_with fail
  refine (HTA.out _ HX7.out.2.2).mono ?_; rintro e w8 ⟨rfl, rfl⟩
  go_wp2_with fail
  go_ret2
  exact ⟨_, _, rfl, HX7.out.1, HX7.out.2.1, HX7.out.2.2⟩
set_option maxRecDepth 100000 in
set_option maxHeartbeats 8000000 in
theorem nsigned_10 {w : World} {va vb : Value} {n A B : Nat} (hA : LN w va n A) (hB : LN w vb n B) (h1 : 1 ≤ n) (hn : n ≤ 128) (h0 : B ≠ 0) (hqa : topB n A = true) (hqb : topB n B = false) : Calls Try.prog 68 #[va, vb] w (RetNP w n (sdivN n A B) (sremN n A B)) := by
  have HN := Lib.hid hn
  have HA := Lib.hid hA
  have HB := Lib.hid hB
  have hAny := nany hB hn
  rw [show nz B = true by simp [nz, h0]] at hAny
  have HAny := Lib.hid hAny
  have HTA : Hid (∀ W, Below w.heap.size w W → Calls Try.prog 70 #[va] W fun e w' => e = .returned (.bool true) ∧ W = w') := Lib.hid fun W hb => by rw [← hqa]; exact ntop (hA.below hb) hn h1
  have HTB : Hid (∀ W, Below w.heap.size w W → Calls Try.prog 70 #[vb] W fun e w' => e = .returned (.bool false) ∧ W = w') := Lib.hid fun W hb => by rw [← hqb]; exact ntop (hB.below hb) hn h1
  have HQ : Hid (sdivN n A B = negN n (negN n A / B) ∧ sremN n A B = negN n (negN n A % B)) := Lib.hid (by unfold sdivN sremN magN; rw [hqa, hqb]; exact ⟨rfl, rfl⟩)
  rw [HQ.out.1, HQ.out.2]
  have HZ : Hid (B ≠ 0) := Lib.hid (by have h := magN_ne hB.lt h0; unfold magN at h; rw [hqb] at h; exact h)
  obtain ⟨pa, ca, rfl⟩ := hA.form
  obtain ⟨pb, cb, rfl⟩ := hB.form
  clear hA hB hn h0 hAny h1 hqa hqb HQ
  go_enter Try.func68, Try.ntmps68
  go_wp2_with fail
  refine HAny.out.mono ?_; rintro e w1 ⟨rfl, rfl⟩
  go_wp2_with fail
  refine (HTA.out _ (Below.refl _ _)).mono ?_; rintro e w1 ⟨rfl, rfl⟩
  have HX0 := Lib.hid (And.intro HA.out (And.intro HB.out (Below.refl w.heap.size w)))
  go_wp2_with fail
  refine (nneg HA.out HN.out).mono ?_; rintro e w2 ⟨v2, rfl, h2, hb2⟩
  obtain ⟨p2, c2, rfl⟩ := h2.form
  have HX1 := Lib.hid (And.intro h2 (And.intro (HB.out.below hb2) hb2))
  clear h2 hb2
  go_wp2_with fail
  refine (HTB.out _ HX1.out.2.2).mono ?_; rintro e w3 ⟨rfl, rfl⟩
  go_wp2_with fail
  refine (nsplit_pos HX1.out.1 HX1.out.2.1 HN.out HZ.out).mono ?_; rintro e w5 ⟨v5, u5, rfl, h5, k5, hb5⟩
  obtain ⟨p5, c5, rfl⟩ := h5.form
  obtain ⟨p6, c6, rfl⟩ := k5.form
  have HX5 := Lib.hid (And.intro h5 (And.intro k5 (HX1.out.2.2.trans (hb5.mono HX1.out.2.2.size))))
  clear h5 k5 hb5
  go_wp2_with fail
  refine (HTA.out _ HX5.out.2.2).mono ?_; rintro e w6 ⟨rfl, rfl⟩
  go_wp2_with fail
  refine (HTB.out _ HX5.out.2.2).mono ?_; rintro e w6 ⟨rfl, rfl⟩
  go_wp2_with fail
  refine (nneg HX5.out.1 HN.out).mono ?_; rintro e w7 ⟨v7, rfl, h7, hb7⟩
  obtain ⟨p7, c7, rfl⟩ := h7.form
  have HX7 := Lib.hid (And.intro h7 (And.intro (HX5.out.2.1.below hb7) (HX5.out.2.2.trans (hb7.mono HX5.out.2.2.size))))
  clear h7 hb7
  go_wp2_with fail
  refine (HTA.out _ HX7.out.2.2).mono ?_; rintro e w8 ⟨rfl, rfl⟩
  go_wp2_with fail
  refine (nneg HX7.out.2.1 HN.out).mono ?_; rintro e w9 ⟨v9, rfl, h9, hb9⟩
  obtain ⟨p9, c9, rfl⟩ := h9.form
  have HX9 := Lib.hid (And.intro (HX7.out.1.below hb9) (And.intro h9 (HX7.out.2.2.trans (hb9.mono HX7.out.2.2.size))))
  clear h9 hb9
  go_wp2_with fail
  go_ret2
  exact ⟨_, _, rfl, HX9.out.1, HX9.out.2.1, HX9.out.2.2⟩
set_option maxRecDepth 100000 in
set_option maxHeartbeats 8000000 in
theorem nsigned_11 {w : World} {va vb : Value} {n A B : Nat} (hA : LN w va n A) (hB : LN w vb n B) (h1 : 1 ≤ n) (hn : n ≤ 128) (h0 : B ≠ 0) (hqa : topB n A = true) (hqb : topB n B = true) : Calls Try.prog 68 #[va, vb] w (RetNP w n (sdivN n A B) (sremN n A B)) := by
  have HN := Lib.hid hn
  have HA := Lib.hid hA
  have HB := Lib.hid hB
  have hAny := nany hB hn
  rw [show nz B = true by simp [nz, h0]] at hAny
  have HAny := Lib.hid hAny
  have HTA : Hid (∀ W, Below w.heap.size w W → Calls Try.prog 70 #[va] W fun e w' => e = .returned (.bool true) ∧ W = w') := Lib.hid fun W hb => by rw [← hqa]; exact ntop (hA.below hb) hn h1
  have HTB : Hid (∀ W, Below w.heap.size w W → Calls Try.prog 70 #[vb] W fun e w' => e = .returned (.bool true) ∧ W = w') := Lib.hid fun W hb => by rw [← hqb]; exact ntop (hB.below hb) hn h1
  have HQ : Hid (sdivN n A B = negN n A / negN n B ∧ sremN n A B = negN n (negN n A % negN n B)) := Lib.hid (by unfold sdivN sremN magN; rw [hqa, hqb]; exact ⟨rfl, rfl⟩)
  rw [HQ.out.1, HQ.out.2]
  have HZ : Hid (negN n B ≠ 0) := Lib.hid (by have h := magN_ne hB.lt h0; unfold magN at h; rw [hqb] at h; exact h)
  obtain ⟨pa, ca, rfl⟩ := hA.form
  obtain ⟨pb, cb, rfl⟩ := hB.form
  clear hA hB hn h0 hAny h1 hqa hqb HQ
  go_enter Try.func68, Try.ntmps68
  go_wp2_with fail
  refine HAny.out.mono ?_; rintro e w1 ⟨rfl, rfl⟩
  go_wp2_with fail
  refine (HTA.out _ (Below.refl _ _)).mono ?_; rintro e w1 ⟨rfl, rfl⟩
  have HX0 := Lib.hid (And.intro HA.out (And.intro HB.out (Below.refl w.heap.size w)))
  go_wp2_with fail
  refine (nneg HA.out HN.out).mono ?_; rintro e w2 ⟨v2, rfl, h2, hb2⟩
  obtain ⟨p2, c2, rfl⟩ := h2.form
  have HX1 := Lib.hid (And.intro h2 (And.intro (HB.out.below hb2) hb2))
  clear h2 hb2
  go_wp2_with fail
  refine (HTB.out _ HX1.out.2.2).mono ?_; rintro e w3 ⟨rfl, rfl⟩
  go_wp2_with fail
  refine (nneg HX1.out.2.1 HN.out).mono ?_; rintro e w4 ⟨v4, rfl, h4, hb4⟩
  obtain ⟨p4, c4, rfl⟩ := h4.form
  have HX2 := Lib.hid (And.intro (HX1.out.1.below hb4) (And.intro h4 (HX1.out.2.2.trans (hb4.mono HX1.out.2.2.size))))
  clear h4 hb4
  go_wp2_with fail
  refine (nsplit_pos HX2.out.1 HX2.out.2.1 HN.out HZ.out).mono ?_; rintro e w5 ⟨v5, u5, rfl, h5, k5, hb5⟩
  obtain ⟨p5, c5, rfl⟩ := h5.form
  obtain ⟨p6, c6, rfl⟩ := k5.form
  have HX5 := Lib.hid (And.intro h5 (And.intro k5 (HX2.out.2.2.trans (hb5.mono HX2.out.2.2.size))))
  clear h5 k5 hb5
  go_wp2_with fail
  refine (HTA.out _ HX5.out.2.2).mono ?_; rintro e w6 ⟨rfl, rfl⟩
  go_wp2_with fail
  refine (HTB.out _ HX5.out.2.2).mono ?_; rintro e w6 ⟨rfl, rfl⟩
  go_wp2_with fail
  refine (HTA.out _ HX5.out.2.2).mono ?_; rintro e w8 ⟨rfl, rfl⟩
  go_wp2_with fail
  refine (nneg HX5.out.2.1 HN.out).mono ?_; rintro e w9 ⟨v9, rfl, h9, hb9⟩
  obtain ⟨p9, c9, rfl⟩ := h9.form
  have HX9 := Lib.hid (And.intro (HX5.out.1.below hb9) (And.intro h9 (HX5.out.2.2.trans (hb9.mono HX5.out.2.2.size))))
  clear h9 hb9
  go_wp2_with fail
  go_ret2
  exact ⟨_, _, rfl, HX9.out.1, HX9.out.2.1, HX9.out.2.2⟩
theorem nsigned {w : World} {va vb : Value} {n A B : Nat} (hA : LN w va n A) (hB : LN w vb n B) (h1 : 1 ≤ n) (hn : n ≤ 128) : Calls Try.prog 68 #[va, vb] w (RetNP w n (sdivZ n A B) (sremZ n A B)) := by
  unfold sdivZ sremZ
  by_cases h : B = 0
  · rw [if_pos h, if_pos h]; exact nsigned_zero hA hB hn h
  · rw [if_neg h, if_neg h]
    cases ha : topB n A <;> cases hb : topB n B
    · exact nsigned_00 hA hB h1 hn h ha hb
    · exact nsigned_01 hA hB h1 hn h ha hb
    · exact nsigned_10 hA hB h1 hn h ha hb
    · exact nsigned_11 hA hB h1 hn h ha hb
end Go.Proofs.Ytmimafbedbohiaa
